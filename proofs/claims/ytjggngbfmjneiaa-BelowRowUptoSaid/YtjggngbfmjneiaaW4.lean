import Derived.Test.YtjggngbfmjneiaaW3
set_option linter.unusedVariables false
set_option linter.unusedSimpArgs false
set_option maxRecDepth 4000
namespace Go.Ab
open Go.Proofs

theorem numbers_pos (a b : ByteArray) (ha : 0 < a.size) (hb : 0 < b.size) (ma : bt a 0 ≠ 45) (mb : bt b 0 ≠ 45) : PCall Try.prog 62 [vStr a, vStr b] (vInt (numPos a b)) := by
  refine PCall.of_fx TTok mixed Try.func62 rfl (by decide) rfl rfl ?_
  conv => whnf
  refine idxB (k := 0) rfl ha ?_
  conv => whnf
  refine idxB (k := 0) rfl hb ?_
  conv => whnf
  refine bsel_false (by simp [ofNat_cast]; omega) ?_
  conv => whnf
  refine bsel_false (by simp [ofNat_cast]; omega) ?_
  conv => whnf
  refine bsel_false (by simp [ofNat_cast]; omega) ?_
  conv => whnf
  refine bsel_intro (fun h1 => ?_) (fun h1 => ?_)
  · have h1 : a.size ≠ b.size := by simp only [beq_true, beq_false, Bool.not_eq_eq_eq_not, Bool.not_true, Bool.not_false, bne_iff_ne, beq_iff_eq, decide_eq_true_eq, decide_eq_false_iff_not, beq_eq_false_iff_ne, bne_eq_false_iff_eq, ofNat_cast, ne_eq] at h1; omega
    conv => whnf
    refine bsel_intro (fun h2 => ?_) (fun h2 => ?_)
    · have h2 := ltN h2
      conv => whnf
      exact retI TTok rfl (by simp [numPos, h1, h2])
    · have h2 := geN h2
      conv => whnf
      exact retI TTok rfl (by rw [numPos, if_neg h1, if_neg (by omega)])
  · have h1 : a.size = b.size := by simp only [beq_true, beq_false, Bool.not_eq_eq_eq_not, Bool.not_true, Bool.not_false, bne_iff_ne, beq_iff_eq, decide_eq_true_eq, decide_eq_false_iff_not, beq_eq_false_iff_ne, bne_eq_false_iff_eq, ofNat_cast, ne_eq] at h1; omega
    conv => whnf
    refine (texts_ok a b).use (.refl _) ?_
    conv => whnf
    exact retI TTok rfl (by simp [numPos, h1])

theorem numbers_ok (a b : ByteArray) (ha : NumOk a) (hb : NumOk b) : PCall Try.prog 62 [vStr a, vStr b] (vInt (numCmp a b)) := by
  by_cases ma : bt a 0 = 45
  · by_cases mb : bt b 0 = 45
    · have ta := ha.tail ma
      have tb := hb.tail mb
      refine PCall.of_fx TTok mixed Try.func62 rfl (by decide) rfl rfl ?_
      conv => whnf
      refine idxB (k := 0) rfl ha.pos ?_
      conv => whnf
      refine idxB (k := 0) rfl hb.pos ?_
      conv => whnf
      refine bsel_true (by simp [ofNat_cast]; omega) ?_
      conv => whnf
      refine bsel_false (by simp [ofNat_cast]; omega) ?_
      conv => whnf
      refine bsel_true (by simp [ofNat_cast]; omega) ?_
      conv => whnf
      refine bsel_false (by simp [ofNat_cast]; omega) ?_
      conv => whnf
      refine bsel_true (by simp [ofNat_cast]; omega) ?_
      conv => whnf
      (refine ⟨by decide +kernel, ?_⟩; conv => whnf)
      refine chk_intro (by have := hb.pos; first | (simp; done) | (simp [ofNat_cast] at *; omega)) ?_
      conv => whnf
      refine chk_intro (by have := ha.pos; first | (simp; done) | (simp [ofNat_cast] at *; omega)) ?_
      conv => whnf
      refine (numbers_pos (tail1 b) (tail1 a) tb.1 ta.1 tb.2 ta.2).useQ (.refl _) ?_
      conv => whnf
      exact retI TTok rfl (by simp [numCmp, ma, mb])
    · refine PCall.of_fx TTok mixed Try.func62 rfl (by decide) rfl rfl ?_
      conv => whnf
      refine idxB (k := 0) rfl ha.pos ?_
      conv => whnf
      refine idxB (k := 0) rfl hb.pos ?_
      conv => whnf
      refine bsel_true (by simp [ofNat_cast]; omega) ?_
      conv => whnf
      refine bsel_true (by simp [ofNat_cast]; omega) ?_
      conv => whnf
      exact retI TTok rfl (by simp [numCmp, ma, mb])
  · by_cases mb : bt b 0 = 45
    · refine PCall.of_fx TTok mixed Try.func62 rfl (by decide) rfl rfl ?_
      conv => whnf
      refine idxB (k := 0) rfl ha.pos ?_
      conv => whnf
      refine idxB (k := 0) rfl hb.pos ?_
      conv => whnf
      refine bsel_false (by simp [ofNat_cast]; omega) ?_
      conv => whnf
      refine bsel_true (by simp [ofNat_cast]; omega) ?_
      conv => whnf
      refine bsel_true (by simp [ofNat_cast]; omega) ?_
      conv => whnf
      exact retI TTok rfl (by simp [numCmp, ma, mb])
    · exact (numbers_pos a b ha.pos hb.pos ma mb).eq rfl (by simp [numCmp, ma, mb])

theorem bound_ok (s : ByteArray) : PCall Try.prog 61 [vStr s] (vBool (tt (BoundOk s))) := by
  refine PCall.of_fx TTok mixed Try.func61 rfl (by decide) rfl rfl ?_
  conv => whnf
  refine bsel_intro (fun h => ?_) (fun h => ?_)
  · have h : s ≠ ⟨#[]⟩ := strEq_not.1 (by simpa using h)
    conv => whnf
    refine (number_ok s).use (.refl _) ?_
    conv => whnf
    exact retB TTok rfl (tt_congr ⟨.inr, fun k => k.resolve_left h⟩)
  · have h : s = ⟨#[]⟩ := strEq_iff.1 (by simpa using h)
    conv => whnf
    exact retB TTok rfl (tt_t (.inl h))
end Go.Ab
