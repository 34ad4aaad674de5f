import Derived.Test.YtjggngbfmjneiaaW13
set_option linter.unusedVariables false
set_option linter.unusedSimpArgs false
set_option maxRecDepth 4000
namespace Go.Ab
open Go.Proofs

theorem split_ok (s : ByteArray) (h0 : 0 < s.size) : PCall Try.prog 112 [vStr s] (.tup [vBool (bt s 0 == 45), vStr (digits s)]) := by
  refine PCall.of_fx TTok mixed Try.func112 rfl (by decide) rfl rfl ?_
  conv => whnf
  refine idxB (k := 0) rfl h0 ?_
  conv => whnf
  refine bsel_intro (fun h1 => ?_) (fun h1 => ?_)
  · have h1 : bt s 0 = 45 := eqN h1
    have ed : digits s = s.extract 1 s.size := if_pos ⟨h0, h1⟩
    conv => whnf
    (refine ⟨by decide +kernel, ?_⟩; conv => whnf)
    refine chk_intro (by simp; omega) ?_
    conv => whnf
    exact retP TTok rfl (.of_eq (by rw [ed, h1]; rfl)) rfl
  · have h1 : bt s 0 ≠ 45 := neN h1
    have ed : digits s = s := if_neg (fun k => h1 k.2)
    conv => whnf
    exact retP TTok rfl (.of_eq (by rw [ed, beq_false_of_ne h1]; rfl)) rfl

theorem digits_neg {s : ByteArray} (h0 : 0 < s.size) (h : bt s 0 = 45) : digits s = tail1 s := if_pos ⟨h0, h⟩
theorem digits_pos {s : ByteArray} (h : bt s 0 ≠ 45) : digits s = s := if_neg (fun k => h k.2)

theorem tensCmp_ok (a b : ByteArray) (ha : NumOk a) (hb : NumOk b) : PCall Try.prog 106 [vStr a, vStr b] (.tup [vInt (numCmp a b), vInt 0]) := by
  refine PCall.of_fx TTok mixed Try.func106 rfl (by decide) rfl rfl ?_
  conv => whnf
  refine (tensFormed_ok a).use (.refl _) ?_
  conv => whnf
  refine bsel_true (by simp [tt_iff.2 ha]) ?_
  conv => whnf
  refine (tensFormed_ok b).use (.refl _) ?_
  conv => whnf
  refine bsel_false (by simp [tt_iff.2 hb]) ?_
  conv => whnf
  refine (split_ok a ha.pos).use (.refl _) ?_
  conv => whnf
  refine (split_ok b hb.pos).use (.refl _) ?_
  conv => whnf
  by_cases ma : bt a 0 = 45
  · by_cases mb : bt b 0 = 45
    · refine bsel_true (by simp [ma]) ?_
      conv => whnf
      refine bsel_true (by simp [mb]) ?_
      conv => whnf
      refine (size_ok _ _).use (.refl _) ?_
      conv => whnf
      exact retP TTok rfl (.of_eq (by rw [digits_neg ha.pos ma, digits_neg hb.pos mb]; simp [numCmp, ma, mb]; rfl)) rfl
    · refine bsel_true (by simp [ma]) ?_
      conv => whnf
      refine bsel_false (by simp [mb]) ?_
      conv => whnf
      refine bsel_true (by simp [ma]) ?_
      conv => whnf
      exact retP TTok rfl (.of_eq (by simp [numCmp, ma, mb]; rfl)) rfl
  · refine bsel_false (by simp [ma]) ?_
    conv => whnf
    refine bsel_false (by simp [ma]) ?_
    conv => whnf
    by_cases mb : bt b 0 = 45
    · refine bsel_true (by simp [mb]) ?_
      conv => whnf
      exact retP TTok rfl (.of_eq (by simp [numCmp, ma, mb]; rfl)) rfl
    · refine bsel_false (by simp [mb]) ?_
      conv => whnf
      refine (size_ok _ _).use (.refl _) ?_
      conv => whnf
      exact retP TTok rfl (.of_eq (by rw [digits_pos ma, digits_pos mb]; simp [numCmp, ma, mb]; rfl)) rfl

theorem worth_ok (a b : ByteArray) (ha : NumOk a) (hb : NumOk b) : PCall Try.prog 91 [vStr a, vStr b] (vInt (numCmp a b)) := by
  refine PCall.of_fx TTok mixed Try.func91 rfl (by decide) rfl rfl ?_
  conv => whnf
  refine (tensCmp_ok a b ha hb).use (.refl _) ?_
  conv => whnf
  exact retI TTok rfl rfl

theorem boundC_ok (a b : ByteArray) (o : Int) (ho : o = 1 ∨ o = -1) (ha : BoundOk a) (hb : BoundOk b) : PCall Try.prog 64 [vStr a, vStr b, vInt o] (vInt (boundC o a b)) := by
  refine PCall.of_fx TTok mixed Try.func64 rfl (by decide) rfl rfl ?_
  conv => whnf
  refine bsel_intro (fun h1 => ?_) (fun h1 => ?_)
  · have h1 : a = b := strEq_iff.1 h1
    conv => whnf
    exact retI TTok rfl (by simp [boundC, h1])
  · have h1 : a ≠ b := strEq_not.1 h1
    conv => whnf
    refine bsel_intro (fun h2 => ?_) (fun h2 => ?_)
    · have h2 : a = ⟨#[]⟩ := strEq_iff.1 h2
      conv => whnf
      exact retI TTok rfl (by rw [boundC, if_neg h1, if_pos h2])
    · have h2 : a ≠ ⟨#[]⟩ := strEq_not.1 h2
      conv => whnf
      refine bsel_intro (fun h3 => ?_) (fun h3 => ?_)
      · have h3 : b = ⟨#[]⟩ := strEq_iff.1 h3
        conv => whnf
        exact retI TTok rfl (by rw [boundC, if_neg h1, if_neg h2, if_pos h3, wrap_id (by omega) (by omega)]; omega)
      · have h3 : b ≠ ⟨#[]⟩ := strEq_not.1 h3
        conv => whnf
        refine (worth_ok a b (ha.resolve_left h2) (hb.resolve_left h3)).use (.refl _) ?_
        conv => whnf
        exact retI TTok rfl (by rw [boundC, if_neg h1, if_neg h2, if_neg h3])
end Go.Ab
