import Derived.Test.YtjggngbfmjneiaaGreatW13
set_option linter.unusedVariables false
set_option linter.unusedSimpArgs false
set_option maxRecDepth 4000
namespace Go.Ab
open Go.Proofs

theorem split_ok (s : ByteArray) (h0 : 0 < s.size) : PCall Tryz.prog 114 [vStr s] (.tup [vBool (bt s 0 == 45), vStr (digits s)]) := by
  refine PCall.of_fx TTok mixed Tryz.func114 rfl (by decide) rfl rfl ?_
  conv => whnf
  refine idxB (k := 0) rfl h0 ?_
  conv => whnf
  refine bsel_intro (fun h1 => ?_) (fun h1 => ?_)
  · have h1 : bt s 0 = 45 := eqN h1
    have ed : digits s = s.extract 1 s.size := if_pos ⟨h0, h1⟩
    conv => whnf
    (refine ⟨by decide +kernel, ?_⟩; conv => whnf)
    refine chk_intro (by simp; omega) ?_
    conv => whnf
    exact retP TTok rfl (.of_eq (by rw [ed, h1]; rfl)) rfl
  · have h1 : bt s 0 ≠ 45 := neN h1
    have ed : digits s = s := if_neg (fun k => h1 k.2)
    conv => whnf
    exact retP TTok rfl (.of_eq (by rw [ed, beq_false_of_ne h1]; rfl)) rfl

theorem digits_neg {s : ByteArray} (h0 : 0 < s.size) (h : bt s 0 = 45) : digits s = tail1 s := if_pos ⟨h0, h⟩
theorem digits_pos {s : ByteArray} (h : bt s 0 ≠ 45) : digits s = s := if_neg (fun k => h k.2)

theorem tensCmp_ok (a b : ByteArray) (ha : NumOk a) (hb : NumOk b) : PCall Tryz.prog 108 [vStr a, vStr b] (.tup [vInt (numCmp a b), vInt 0]) := by
  refine PCall.of_fx TTok mixed Tryz.func108 rfl (by decide) rfl rfl ?_
  conv => whnf
  refine (tensFormed_ok a).use (.refl _) ?_
  conv => whnf
  refine bsel_true (by simp [tt_iff.2 ha]) ?_
  conv => whnf
  refine (tensFormed_ok b).use (.refl _) ?_
  conv => whnf
  refine bsel_false (by simp [tt_iff.2 hb]) ?_
  conv => whnf
  refine (split_ok a ha.pos).use (.refl _) ?_
  conv => whnf
  refine (split_ok b hb.pos).use (.refl _) ?_
  conv => whnf
  by_cases ma : bt a 0 = 45
  · by_cases mb : bt b 0 = 45
    · refine bsel_true (by simp [ma]) ?_
      conv => whnf
      refine bsel_true (by simp [mb]) ?_
      conv => whnf
      refine (size_ok _ _).use (.refl _) ?_
      conv => whnf
      exact retP TTok rfl (.of_eq (by rw [digits_neg ha.pos ma, digits_neg hb.pos mb]; simp [numCmp, ma, mb]; rfl)) rfl
    · refine bsel_true (by simp [ma]) ?_
      conv => whnf
      refine bsel_false (by simp [mb]) ?_
      conv => whnf
      refine bsel_true (by simp [ma]) ?_
      conv => whnf
      exact retP TTok rfl (.of_eq (by simp [numCmp, ma, mb]; rfl)) rfl
  · refine bsel_false (by simp [ma]) ?_
    conv => whnf
    refine bsel_false (by simp [ma]) ?_
    conv => whnf
    by_cases mb : bt b 0 = 45
    · refine bsel_true (by simp [mb]) ?_
      conv => whnf
      exact retP TTok rfl (.of_eq (by simp [numCmp, ma, mb]; rfl)) rfl
    · refine bsel_false (by simp [mb]) ?_
      conv => whnf
      refine (size_ok _ _).use (.refl _) ?_
      conv => whnf
      exact retP TTok rfl (.of_eq (by rw [digits_pos ma, digits_pos mb]; simp [numCmp, ma, mb]; rfl)) rfl

end Go.Ab
