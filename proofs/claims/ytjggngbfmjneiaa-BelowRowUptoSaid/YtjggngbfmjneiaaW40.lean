import Derived.Test.YtjggngbfmjneiaaW14
import Derived.Test.YtjggngbfmjneiaaW8
import Derived.Test.YtjggngbfmjneiaaPZ
set_option linter.unusedVariables false
set_option linter.unusedSimpArgs false
set_option maxRecDepth 4000
namespace Go.Ab
open Go.Proofs

theorem bworth_ok (a b : ByteArray) (ha : NumOk a) (hb : NumOk b) : PCall Try.prog 97 [vStr a, vStr b] (vInt (numCmp a b)) := by
  refine PCall.of_fx TTok mixed Try.func97 rfl (by decide) rfl rfl ?_
  conv => whnf
  refine (tensCmp_ok a b ha hb).use (.refl _) ?_
  conv => whnf
  exact retI TTok rfl rfl

theorem hollow_ok (s : Sp) (hs : SpOk s) : PCall Try.prog 85 [vSp s] (vBool (tt (Hollow s))) := by
  refine PCall.of_fx TTok mixed Try.func85 rfl (by decide) rfl rfl ?_
  conv => whnf
  refine bsel_intro (fun h1 => ?_) (fun h1 => ?_)
  · have h1 : s.low ≠ ⟨#[]⟩ := strEq_not.1 (by simpa using h1)
    conv => whnf
    refine bsel_intro (fun h2 => ?_) (fun h2 => ?_)
    · have h2 : s.high ≠ ⟨#[]⟩ := strEq_not.1 (by simpa using h2)
      conv => whnf
      refine (bworth_ok s.low s.high (hs.1.resolve_left h1) (hs.2.resolve_left h2)).use (.refl _) ?_
      conv => whnf
      exact retB TTok rfl (tt_eq (by simp only [decide_eq_true_eq]; exact ⟨fun h => ⟨h1, h2, h⟩, fun h => h.2.2⟩))
    · have h2 : s.high = ⟨#[]⟩ := strEq_iff.1 (by simpa using h2)
      conv => whnf
      exact retB TTok rfl (tt_eq (by simp [strEq_iff.2 h2, Hollow, h2]))
  · have h1 : s.low = ⟨#[]⟩ := strEq_iff.1 (by simpa using h1)
    conv => whnf
    exact retB TTok rfl (tt_f fun h => h.1 h1)

theorem lower_ok (a b : ByteArray) (ha : BoundOk a) (hb : BoundOk b) : PCall Try.prog 86 [vStr a, vStr b] (vStr (lowerS a b)) := by
  refine PCall.of_fx TTok mixed Try.func86 rfl (by decide) rfl rfl ?_
  conv => whnf
  refine bsel_intro (fun h1 => ?_) (fun h1 => ?_)
  · have h1 : a ≠ ⟨#[]⟩ := strEq_not.1 (by simpa using h1)
    conv => whnf
    refine bsel_intro (fun h2 => ?_) (fun h2 => ?_)
    · have h2 : b ≠ ⟨#[]⟩ := strEq_not.1 (by simpa using h2)
      conv => whnf
      refine (bworth_ok a b (ha.resolve_left h1) (hb.resolve_left h2)).use (.refl _) ?_
      conv => whnf
      refine bsel_intro (fun h3 => ?_) (fun h3 => ?_)
      · have h3 : numCmp a b < 0 := by simpa using h3
        conv => whnf
        exact retP TTok rfl (.of_eq (by rw [lowerS, if_pos (.inr ⟨h2, h3⟩)]; rfl)) rfl
      · have h3 : ¬ numCmp a b < 0 := by simpa using h3
        conv => whnf
        exact retP TTok rfl (.of_eq (by rw [lowerS, if_neg (by rintro (h | h); exact h1 h; exact h3 h.2)]; rfl)) rfl
    · have h2 : b = ⟨#[]⟩ := strEq_iff.1 (by simpa using h2)
      conv => whnf
      exact retP TTok rfl (.of_eq (by rw [lowerS, if_neg (by rintro (h | h); exact h1 h; exact h.1 h2)]; rfl)) rfl
  · have h1 : a = ⟨#[]⟩ := strEq_iff.1 (by simpa using h1)
    conv => whnf
    exact retP TTok rfl (.of_eq (by rw [lowerS, if_pos (.inl h1)]; rfl)) rfl
theorem upper_ok (a b : ByteArray) (ha : BoundOk a) (hb : BoundOk b) : PCall Try.prog 87 [vStr a, vStr b] (vStr (upperS a b)) := by
  refine PCall.of_fx TTok mixed Try.func87 rfl (by decide) rfl rfl ?_
  conv => whnf
  refine bsel_intro (fun h1 => ?_) (fun h1 => ?_)
  · have h1 : a ≠ ⟨#[]⟩ := strEq_not.1 (by simpa using h1)
    conv => whnf
    refine bsel_intro (fun h2 => ?_) (fun h2 => ?_)
    · have h2 : b ≠ ⟨#[]⟩ := strEq_not.1 (by simpa using h2)
      conv => whnf
      refine (bworth_ok a b (ha.resolve_left h1) (hb.resolve_left h2)).use (.refl _) ?_
      conv => whnf
      refine bsel_intro (fun h3 => ?_) (fun h3 => ?_)
      · have h3 : 0 < numCmp a b := by simpa using h3
        conv => whnf
        exact retP TTok rfl (.of_eq (by rw [upperS, if_pos (.inr ⟨h2, h3⟩)]; rfl)) rfl
      · have h3 : ¬ 0 < numCmp a b := by simpa using h3
        conv => whnf
        exact retP TTok rfl (.of_eq (by rw [upperS, if_neg (by rintro (h | h); exact h1 h; exact h3 h.2)]; rfl)) rfl
    · have h2 : b = ⟨#[]⟩ := strEq_iff.1 (by simpa using h2)
      conv => whnf
      exact retP TTok rfl (.of_eq (by rw [upperS, if_neg (by rintro (h | h); exact h1 h; exact h.1 h2)]; rfl)) rfl
  · have h1 : a = ⟨#[]⟩ := strEq_iff.1 (by simpa using h1)
    conv => whnf
    exact retP TTok rfl (.of_eq (by rw [upperS, if_pos (.inl h1)]; rfl)) rfl

/-- One half of Span: the inner bound against the outer. -/
theorem bspan_ok (a b : Sp) (ha : SpOk a) (hb : SpOk b) : PCall Try.prog 77 [vSp a, vSp b] (vBool (tt (SpanIn a b))) := by
  refine PCall.of_fx TTok mixed Try.func77 rfl (by decide) rfl rfl ?_
  conv => whnf
  refine (hollow_ok a ha).use (.refl _) ?_
  conv => whnf
  refine bsel_intro (fun h0 => ?_) (fun h0 => ?_)
  · have h0 : Hollow a := tt_iff.1 (by simpa using h0)
    conv => whnf
    exact retB TTok rfl (tt_t (.inl h0))
  have h0 : ¬Hollow a := tt_not.1 (by simpa using h0)
  have fin : ∀ x : Bool, (x = true ↔ ((b.low = ⟨#[]⟩ ∨ (a.low ≠ ⟨#[]⟩ ∧ numCmp b.low a.low ≤ 0)) ∧ (b.high = ⟨#[]⟩ ∨ (a.high ≠ ⟨#[]⟩ ∧ numCmp a.high b.high ≤ 0)))) → x = tt (SpanIn a b) := fun x hx =>
    tt_eq (hx.trans ⟨.inr, fun h => h.resolve_left h0⟩)
  conv => whnf
  refine bsel_intro (fun l1 => ?_) (fun l1 => ?_)
  · have l1 : b.low ≠ ⟨#[]⟩ := strEq_not.1 (by simpa using l1)
    conv => whnf
    refine bsel_intro (fun l2 => ?_) (fun l2 => ?_)
    · have l2 : a.low ≠ ⟨#[]⟩ := strEq_not.1 (by simpa using l2)
      conv => whnf
      refine (bworth_ok b.low a.low (hb.1.resolve_left l1) (ha.1.resolve_left l2)).use (.refl _) ?_
      conv => whnf
      refine bsel_intro (fun l3 => ?_) (fun l3 => ?_)
      · have l3 : numCmp b.low a.low ≤ 0 := by simpa using l3
        conv => whnf
        refine bsel_intro (fun k1 => ?_) (fun k1 => ?_)
        · have k1 : b.high ≠ ⟨#[]⟩ := strEq_not.1 (by simpa using k1)
          conv => whnf
          refine bsel_intro (fun k2 => ?_) (fun k2 => ?_)
          · have k2 : a.high ≠ ⟨#[]⟩ := strEq_not.1 (by simpa using k2)
            conv => whnf
            refine (bworth_ok a.high b.high (ha.2.resolve_left k2) (hb.2.resolve_left k1)).use (.refl _) ?_
            conv => whnf
            exact retB TTok rfl (fin _ (by simp [l1, l2, l3, k1, k2]))
          · have k2 : a.high = ⟨#[]⟩ := strEq_iff.1 (by simpa using k2)
            conv => whnf
            exact retB TTok rfl (fin _ (by simp [l1, l2, l3, k1, k2, strEq]))
        · have k1 : b.high = ⟨#[]⟩ := strEq_iff.1 (by simpa using k1)
          conv => whnf
          exact retB TTok rfl (fin _ (by simp [l1, l2, l3, k1, strEq]))
      · have l3 : ¬ numCmp b.low a.low ≤ 0 := by simpa using l3
        conv => whnf
        exact retB TTok rfl (fin _ (by simp [l1, l2]; omega))
    · have l2 : a.low = ⟨#[]⟩ := strEq_iff.1 (by simpa using l2)
      conv => whnf
      exact retB TTok rfl (fin _ (by simp [l1, l2]))
  · have l1 : b.low = ⟨#[]⟩ := strEq_iff.1 (by simpa using l1)
    conv => whnf
    refine bsel_intro (fun k1 => ?_) (fun k1 => ?_)
    · have k1 : b.high ≠ ⟨#[]⟩ := strEq_not.1 (by simpa using k1)
      conv => whnf
      refine bsel_intro (fun k2 => ?_) (fun k2 => ?_)
      · have k2 : a.high ≠ ⟨#[]⟩ := strEq_not.1 (by simpa using k2)
        conv => whnf
        refine (bworth_ok a.high b.high (ha.2.resolve_left k2) (hb.2.resolve_left k1)).use (.refl _) ?_
        conv => whnf
        exact retB TTok rfl (fin _ (by simp [l1, k1, k2]))
      · have k2 : a.high = ⟨#[]⟩ := strEq_iff.1 (by simpa using k2)
        conv => whnf
        exact retB TTok rfl (fin _ (by simp [l1, k1, k2, strEq]))
    · have k1 : b.high = ⟨#[]⟩ := strEq_iff.1 (by simpa using k1)
      conv => whnf
      exact retB TTok rfl (fin _ (by simp [l1, k1, strEq]))

theorem bwords_ok (a b : Ty) : PCall Try.prog 50 [vTy a, vTy b] (vBool (tt (WordsIn a b))) := by
  refine PCall.of_fx TTok mixed Try.func50 rfl (by decide) rfl rfl ?_
  conv => whnf
  repeat' (refine bsel_intro (fun _ => ?_) (fun _ => ?_) <;> conv => whnf)
  all_goals exact retB TTok rfl (tt_eq (by unfold WordsIn; simp_all))
theorem awords_ok (a b : Ty) : PCall Try.prog 56 [vTy a, vTy b] (vBool (tt (WordsAp a b))) := by
  refine PCall.of_fx TTok mixed Try.func56 rfl (by decide) rfl rfl ?_
  conv => whnf
  repeat' (refine bsel_intro (fun _ => ?_) (fun _ => ?_) <;> conv => whnf)
  all_goals exact retB TTok rfl (tt_eq (by unfold WordsAp; simp_all))

theorem bnums_ok (a b : Ty) (ha : ∀ s ∈ a.nums, SpOk s) (hb : ∀ s ∈ b.nums, SpOk s) : PCall Try.prog 51 [vTy a, vTy b] (vBool (tt (NumsIn a b))) := by
  refine PCall.of_fx TTok mixed Try.func51 rfl (by decide) rfl rfl ?_
  conv => whnf
  (refine ⟨by decide +kernel, ?_⟩; conv => whnf)
  refine bsel_intro (fun h1 => ?_) (fun h1 => ?_)
  · have h1 : 0 < a.nums.length := by cases hx : a.nums with | nil => (first | (simp [hx] at h1; done) | (simp [hx, ofNat_cast] at h1; omega)) | cons y l => simp
    conv => whnf
    refine bsel_intro (fun h2 => ?_) (fun h2 => ?_)
    · have h2 : 0 < b.nums.length := by cases hx : b.nums with | nil => (first | (simp [hx] at h2; done) | (simp [hx, ofNat_cast] at h2; omega)) | cons y l => simp
      conv => whnf
      refine idxSp (k := 0) h1 rfl ?_
      conv => whnf
      refine idxSp (k := 0) h2 rfl ?_
      conv => whnf
      refine (bspan_ok a.nums[0] b.nums[0] (ha _ (List.getElem_mem h1)) (hb _ (List.getElem_mem h2))).useQ (.refl _) ?_
      conv => whnf
      exact retB TTok rfl (tt_congr ⟨fun h _ => ⟨h2, h⟩, fun h => (h h1).2⟩)
    · have h2 : ¬ 0 < b.nums.length := by cases hx : b.nums with | nil => simp | cons y l => (first | (simp [hx] at h2; done) | (simp [hx, ofNat_cast] at h2; omega))
      conv => whnf
      exact retB TTok rfl (tt_f fun h => h2 (h h1).1)
  · have h1 : ¬ 0 < a.nums.length := by cases hx : a.nums with | nil => simp | cons y l => (first | (simp [hx] at h1; done) | (simp [hx, ofNat_cast] at h1; omega))
    conv => whnf
    exact retB TTok rfl (tt_eq ⟨fun _ h => absurd h h1, fun _ => by simp⟩)

theorem spBounds {a b : Sp} (ha : SpOk a) (hb : SpOk b) : SpOk ⟨lowerS a.low b.low, upperS a.high b.high⟩ := by
  constructor
  · show BoundOk (lowerS a.low b.low)
    unfold lowerS; split
    · exact hb.1
    · exact ha.1
  · show BoundOk (upperS a.high b.high)
    unfold upperS; split
    · exact hb.2
    · exact ha.2
theorem anums_ok (a b : Ty) (ha : ∀ s ∈ a.nums, SpOk s) (hb : ∀ s ∈ b.nums, SpOk s) : PCall Try.prog 57 [vTy a, vTy b] (vBool (tt (NumsAp a b))) := by
  refine PCall.of_fx TTok mixed Try.func57 rfl (by decide) rfl rfl ?_
  conv => whnf
  refine bsel_intro (fun h1 => ?_) (fun h1 => ?_)
  case' refine_2 =>
    have h1 : ¬ 0 < a.nums.length := by cases hx : a.nums with | nil => simp | cons y l => (first | (simp [hx] at h1; done) | (simp [hx, ofNat_cast] at h1; omega))
    conv => whnf
    exact retB TTok rfl (tt_t fun h => absurd h h1)
  have h1 : 0 < a.nums.length := by cases hx : a.nums with | nil => (first | (simp [hx] at h1; done) | (simp [hx, ofNat_cast] at h1; omega)) | cons y l => simp
  conv => whnf
  refine bsel_intro (fun h2 => ?_) (fun h2 => ?_)
  · have h2 : ¬ 0 < b.nums.length := by cases hx : b.nums with | nil => simp | cons y l => (first | (simp [hx] at h2; done) | (simp [hx, ofNat_cast] at h2; omega))
    conv => whnf
    exact retB TTok rfl (tt_t fun _ h => absurd h h2)
  have h2 : 0 < b.nums.length := by cases hx : b.nums with | nil => (first | (simp [hx] at h2; done) | (simp [hx, ofNat_cast] at h2; omega)) | cons y l => simp
  conv => whnf
  refine ⟨SExec.region_fE TTok mixed 2 (by decide +kernel) rfl rfl ?_⟩
  conv => whnf
  refine idxSp (k := 0) h1 rfl ?_
  conv => whnf
  refine idxSp (k := 0) h2 rfl ?_
  conv => whnf
  (refine ⟨by decide +kernel, ?_⟩; conv => whnf)
  have pa := ha _ (List.getElem_mem h1)
  have pb := hb _ (List.getElem_mem h2)
  refine (lower_ok a.nums[0].low b.nums[0].low pa.1 pb.1).useQ (.refl _) ?_
  conv => whnf
  refine (upper_ok a.nums[0].high b.nums[0].high pa.2 pb.2).useQ (.refl _) ?_
  conv => whnf
  refine (hollow_ok ⟨lowerS a.nums[0].low b.nums[0].low, upperS a.nums[0].high b.nums[0].high⟩ (spBounds pa pb)).useQ (.refl _) ?_
  conv => whnf
  exact retB TTok rfl (tt_congr ⟨fun h _ _ => h, fun h => h h1 h2⟩)
end Go.Ab
