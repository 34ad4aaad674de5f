import Derived.Test.YtjggngbfmjneiaaGreatW14
import Derived.Test.YtjggngbfmjneiaaGreatW8
import Derived.Test.YtjggngbfmjneiaaGreatPZ
import Derived.Test.YtjggngbfmjneiaaGreatW25
import Derived.Test.YtjggngbfmjneiaaGreatW26k
set_option linter.unusedVariables false
set_option linter.unusedSimpArgs false
set_option maxRecDepth 4000
namespace Go.Ab
open Go.Proofs

theorem bworth_ok (a b : ByteArray) (ha : NumOk a) (hb : NumOk b) : PCall Tryz.prog 95 [vStr a, vStr b] (vInt (numCmp a b)) := by
  refine PCall.of_fx TTok mixed Tryz.func95 rfl (by decide) rfl rfl ?_
  conv => whnf
  refine (tensCmp_ok a b ha hb).use (.refl _) ?_
  conv => whnf
  exact retI TTok rfl rfl

theorem hollow_ok (s : Sp) (hs : SpOk s) : PCall Tryz.prog 82 [vSp s] (vBool (tt (Hollow s))) := by
  refine PCall.of_fx TTok mixed Tryz.func82 rfl (by decide) rfl rfl ?_
  conv => whnf
  refine bsel_intro (fun h1 => ?_) (fun h1 => ?_)
  · have h1 : s.low ≠ ⟨#[]⟩ := strEq_not.1 (by simpa using h1)
    conv => whnf
    refine bsel_intro (fun h2 => ?_) (fun h2 => ?_)
    · have h2 : s.high ≠ ⟨#[]⟩ := strEq_not.1 (by simpa using h2)
      conv => whnf
      refine (bworth_ok s.low s.high (hs.1.resolve_left h1) (hs.2.resolve_left h2)).use (.refl _) ?_
      conv => whnf
      exact retB TTok rfl (tt_eq (by simp only [decide_eq_true_eq]; exact ⟨fun h => ⟨h1, h2, h⟩, fun h => h.2.2⟩))
    · have h2 : s.high = ⟨#[]⟩ := strEq_iff.1 (by simpa using h2)
      conv => whnf
      exact retB TTok rfl (tt_eq (by simp [strEq_iff.2 h2, Hollow, h2]))
  · have h1 : s.low = ⟨#[]⟩ := strEq_iff.1 (by simpa using h1)
    conv => whnf
    exact retB TTok rfl (tt_f fun h => h.1 h1)

theorem lower_ok (a b : ByteArray) (ha : BoundOk a) (hb : BoundOk b) : PCall Tryz.prog 83 [vStr a, vStr b] (vStr (lowerS a b)) := by
  refine PCall.of_fx TTok mixed Tryz.func83 rfl (by decide) rfl rfl ?_
  conv => whnf
  refine bsel_intro (fun h1 => ?_) (fun h1 => ?_)
  · have h1 : a ≠ ⟨#[]⟩ := strEq_not.1 (by simpa using h1)
    conv => whnf
    refine bsel_intro (fun h2 => ?_) (fun h2 => ?_)
    · have h2 : b ≠ ⟨#[]⟩ := strEq_not.1 (by simpa using h2)
      conv => whnf
      refine (bworth_ok a b (ha.resolve_left h1) (hb.resolve_left h2)).use (.refl _) ?_
      conv => whnf
      refine bsel_intro (fun h3 => ?_) (fun h3 => ?_)
      · have h3 : numCmp a b < 0 := by simpa using h3
        conv => whnf
        exact retP TTok rfl (.of_eq (by rw [lowerS, if_pos (.inr ⟨h2, h3⟩)]; rfl)) rfl
      · have h3 : ¬ numCmp a b < 0 := by simpa using h3
        conv => whnf
        exact retP TTok rfl (.of_eq (by rw [lowerS, if_neg (by rintro (h | h); exact h1 h; exact h3 h.2)]; rfl)) rfl
    · have h2 : b = ⟨#[]⟩ := strEq_iff.1 (by simpa using h2)
      conv => whnf
      exact retP TTok rfl (.of_eq (by rw [lowerS, if_neg (by rintro (h | h); exact h1 h; exact h.1 h2)]; rfl)) rfl
  · have h1 : a = ⟨#[]⟩ := strEq_iff.1 (by simpa using h1)
    conv => whnf
    exact retP TTok rfl (.of_eq (by rw [lowerS, if_pos (.inl h1)]; rfl)) rfl
theorem upper_ok (a b : ByteArray) (ha : BoundOk a) (hb : BoundOk b) : PCall Tryz.prog 84 [vStr a, vStr b] (vStr (upperS a b)) := by
  refine PCall.of_fx TTok mixed Tryz.func84 rfl (by decide) rfl rfl ?_
  conv => whnf
  refine bsel_intro (fun h1 => ?_) (fun h1 => ?_)
  · have h1 : a ≠ ⟨#[]⟩ := strEq_not.1 (by simpa using h1)
    conv => whnf
    refine bsel_intro (fun h2 => ?_) (fun h2 => ?_)
    · have h2 : b ≠ ⟨#[]⟩ := strEq_not.1 (by simpa using h2)
      conv => whnf
      refine (bworth_ok a b (ha.resolve_left h1) (hb.resolve_left h2)).use (.refl _) ?_
      conv => whnf
      refine bsel_intro (fun h3 => ?_) (fun h3 => ?_)
      · have h3 : 0 < numCmp a b := by simpa using h3
        conv => whnf
        exact retP TTok rfl (.of_eq (by rw [upperS, if_pos (.inr ⟨h2, h3⟩)]; rfl)) rfl
      · have h3 : ¬ 0 < numCmp a b := by simpa using h3
        conv => whnf
        exact retP TTok rfl (.of_eq (by rw [upperS, if_neg (by rintro (h | h); exact h1 h; exact h3 h.2)]; rfl)) rfl
    · have h2 : b = ⟨#[]⟩ := strEq_iff.1 (by simpa using h2)
      conv => whnf
      exact retP TTok rfl (.of_eq (by rw [upperS, if_neg (by rintro (h | h); exact h1 h; exact h.1 h2)]; rfl)) rfl
  · have h1 : a = ⟨#[]⟩ := strEq_iff.1 (by simpa using h1)
    conv => whnf
    exact retP TTok rfl (.of_eq (by rw [upperS, if_pos (.inl h1)]; rfl)) rfl

/-- One half of Span: the inner bound against the outer. -/
theorem bspan_ok (a b : Sp) (ha : SpOk a) (hb : SpOk b) : PCall Tryz.prog 72 [vSp a, vSp b] (vBool (tt (SpanIn a b))) := by
  refine PCall.of_fx TTok mixed Tryz.func72 rfl (by decide) rfl rfl ?_
  conv => whnf
  refine (hollow_ok a ha).use (.refl _) ?_
  conv => whnf
  refine bsel_intro (fun h0 => ?_) (fun h0 => ?_)
  · have h0 : Hollow a := tt_iff.1 (by simpa using h0)
    conv => whnf
    exact retB TTok rfl (tt_t (.inl h0))
  have h0 : ¬Hollow a := tt_not.1 (by simpa using h0)
  have fin : ∀ x : Bool, (x = true ↔ ((b.low = ⟨#[]⟩ ∨ (a.low ≠ ⟨#[]⟩ ∧ numCmp b.low a.low ≤ 0)) ∧ (b.high = ⟨#[]⟩ ∨ (a.high ≠ ⟨#[]⟩ ∧ numCmp a.high b.high ≤ 0)))) → x = tt (SpanIn a b) := fun x hx =>
    tt_eq (hx.trans ⟨.inr, fun h => h.resolve_left h0⟩)
  conv => whnf
  refine bsel_intro (fun l1 => ?_) (fun l1 => ?_)
  · have l1 : b.low ≠ ⟨#[]⟩ := strEq_not.1 (by simpa using l1)
    conv => whnf
    refine bsel_intro (fun l2 => ?_) (fun l2 => ?_)
    · have l2 : a.low ≠ ⟨#[]⟩ := strEq_not.1 (by simpa using l2)
      conv => whnf
      refine (bworth_ok b.low a.low (hb.1.resolve_left l1) (ha.1.resolve_left l2)).use (.refl _) ?_
      conv => whnf
      refine bsel_intro (fun l3 => ?_) (fun l3 => ?_)
      · have l3 : numCmp b.low a.low ≤ 0 := by simpa using l3
        conv => whnf
        refine bsel_intro (fun k1 => ?_) (fun k1 => ?_)
        · have k1 : b.high ≠ ⟨#[]⟩ := strEq_not.1 (by simpa using k1)
          conv => whnf
          refine bsel_intro (fun k2 => ?_) (fun k2 => ?_)
          · have k2 : a.high ≠ ⟨#[]⟩ := strEq_not.1 (by simpa using k2)
            conv => whnf
            refine (bworth_ok a.high b.high (ha.2.resolve_left k2) (hb.2.resolve_left k1)).use (.refl _) ?_
            conv => whnf
            exact retB TTok rfl (fin _ (by simp [l1, l2, l3, k1, k2]))
          · have k2 : a.high = ⟨#[]⟩ := strEq_iff.1 (by simpa using k2)
            conv => whnf
            exact retB TTok rfl (fin _ (by simp [l1, l2, l3, k1, k2, strEq]))
        · have k1 : b.high = ⟨#[]⟩ := strEq_iff.1 (by simpa using k1)
          conv => whnf
          exact retB TTok rfl (fin _ (by simp [l1, l2, l3, k1, strEq]))
      · have l3 : ¬ numCmp b.low a.low ≤ 0 := by simpa using l3
        conv => whnf
        exact retB TTok rfl (fin _ (by simp [l1, l2]; omega))
    · have l2 : a.low = ⟨#[]⟩ := strEq_iff.1 (by simpa using l2)
      conv => whnf
      exact retB TTok rfl (fin _ (by simp [l1, l2]))
  · have l1 : b.low = ⟨#[]⟩ := strEq_iff.1 (by simpa using l1)
    conv => whnf
    refine bsel_intro (fun k1 => ?_) (fun k1 => ?_)
    · have k1 : b.high ≠ ⟨#[]⟩ := strEq_not.1 (by simpa using k1)
      conv => whnf
      refine bsel_intro (fun k2 => ?_) (fun k2 => ?_)
      · have k2 : a.high ≠ ⟨#[]⟩ := strEq_not.1 (by simpa using k2)
        conv => whnf
        refine (bworth_ok a.high b.high (ha.2.resolve_left k2) (hb.2.resolve_left k1)).use (.refl _) ?_
        conv => whnf
        exact retB TTok rfl (fin _ (by simp [l1, k1, k2]))
      · have k2 : a.high = ⟨#[]⟩ := strEq_iff.1 (by simpa using k2)
        conv => whnf
        exact retB TTok rfl (fin _ (by simp [l1, k1, k2, strEq]))
    · have k1 : b.high = ⟨#[]⟩ := strEq_iff.1 (by simpa using k1)
      conv => whnf
      exact retB TTok rfl (fin _ (by simp [l1, k1, strEq]))

theorem bwords_ok (a b : Ty) : PCall Tryz.prog 31 [vTy a, vTy b] (vBool (tt (WordsIn a b))) := by
  refine PCall.of_fx TTok mixed Tryz.func31 rfl (by decide) rfl rfl ?_
  conv => whnf
  repeat' (refine bsel_intro (fun _ => ?_) (fun _ => ?_) <;> conv => whnf)
  all_goals exact retB TTok rfl (tt_eq (by unfold WordsIn; simp_all))
theorem awords_ok (a b : Ty) : PCall Tryz.prog 47 [vTy a, vTy b] (vBool (tt (WordsAp a b))) := by
  refine PCall.of_fx TTok mixed Tryz.func47 rfl (by decide) rfl rfl ?_
  conv => whnf
  repeat' (refine bsel_intro (fun _ => ?_) (fun _ => ?_) <;> conv => whnf)
  all_goals exact retB TTok rfl (tt_eq (by unfold WordsAp; simp_all))

theorem bnums_ok (a b : Ty) (ha : ∀ s ∈ a.nums, SpOk s) (hb : ∀ s ∈ b.nums, SpOk s) : PCall Tryz.prog 32 [vTy a, vTy b] (vBool (tt (NumsIn a b))) := by
  refine PCall.of_fx TTok mixed Tryz.func32 rfl (by decide) rfl rfl ?_
  conv => whnf
  (refine ⟨by decide +kernel, ?_⟩; conv => whnf)
  refine bsel_intro (fun h1 => ?_) (fun h1 => ?_)
  · have h1 : 0 < a.nums.length := by cases hx : a.nums with | nil => (first | (simp [hx] at h1; done) | (simp [hx, ofNat_cast] at h1; omega)) | cons y l => simp
    conv => whnf
    refine bsel_intro (fun h2 => ?_) (fun h2 => ?_)
    · have h2 : 0 < b.nums.length := by cases hx : b.nums with | nil => (first | (simp [hx] at h2; done) | (simp [hx, ofNat_cast] at h2; omega)) | cons y l => simp
      conv => whnf
      refine idxSp (k := 0) h1 rfl ?_
      conv => whnf
      refine idxSp (k := 0) h2 rfl ?_
      conv => whnf
      refine (bspan_ok a.nums[0] b.nums[0] (ha _ (List.getElem_mem h1)) (hb _ (List.getElem_mem h2))).useQ (.refl _) ?_
      conv => whnf
      exact retB TTok rfl (tt_congr ⟨fun h _ => ⟨h2, h⟩, fun h => (h h1).2⟩)
    · have h2 : ¬ 0 < b.nums.length := by cases hx : b.nums with | nil => simp | cons y l => (first | (simp [hx] at h2; done) | (simp [hx, ofNat_cast] at h2; omega))
      conv => whnf
      exact retB TTok rfl (tt_f fun h => h2 (h h1).1)
  · have h1 : ¬ 0 < a.nums.length := by cases hx : a.nums with | nil => simp | cons y l => (first | (simp [hx] at h1; done) | (simp [hx, ofNat_cast] at h1; omega))
    conv => whnf
    exact retB TTok rfl (tt_eq ⟨fun _ h => absurd h h1, fun _ => by simp⟩)

theorem spBounds {a b : Sp} (ha : SpOk a) (hb : SpOk b) : SpOk ⟨lowerS a.low b.low, upperS a.high b.high⟩ := by
  constructor
  · show BoundOk (lowerS a.low b.low)
    unfold lowerS; split
    · exact hb.1
    · exact ha.1
  · show BoundOk (upperS a.high b.high)
    unfold upperS; split
    · exact hb.2
    · exact ha.2
theorem anums_ok (a b : Ty) (ha : ∀ s ∈ a.nums, SpOk s) (hb : ∀ s ∈ b.nums, SpOk s) : PCall Tryz.prog 48 [vTy a, vTy b] (vBool (tt (NumsAp a b))) := by
  refine PCall.of_fx TTok mixed Tryz.func48 rfl (by decide) rfl rfl ?_
  conv => whnf
  refine bsel_intro (fun h1 => ?_) (fun h1 => ?_)
  case' refine_2 =>
    have h1 : ¬ 0 < a.nums.length := by cases hx : a.nums with | nil => simp | cons y l => (first | (simp [hx] at h1; done) | (simp [hx, ofNat_cast] at h1; omega))
    conv => whnf
    exact retB TTok rfl (tt_t fun h => absurd h h1)
  have h1 : 0 < a.nums.length := by cases hx : a.nums with | nil => (first | (simp [hx] at h1; done) | (simp [hx, ofNat_cast] at h1; omega)) | cons y l => simp
  conv => whnf
  refine bsel_intro (fun h2 => ?_) (fun h2 => ?_)
  · have h2 : ¬ 0 < b.nums.length := by cases hx : b.nums with | nil => simp | cons y l => (first | (simp [hx] at h2; done) | (simp [hx, ofNat_cast] at h2; omega))
    conv => whnf
    exact retB TTok rfl (tt_t fun _ h => absurd h h2)
  have h2 : 0 < b.nums.length := by cases hx : b.nums with | nil => (first | (simp [hx] at h2; done) | (simp [hx, ofNat_cast] at h2; omega)) | cons y l => simp
  conv => whnf
  refine ⟨SExec.region_fE TTok mixed 2 (by decide +kernel) rfl rfl ?_⟩
  conv => whnf
  refine idxSp (k := 0) h1 rfl ?_
  conv => whnf
  refine idxSp (k := 0) h2 rfl ?_
  conv => whnf
  (refine ⟨by decide +kernel, ?_⟩; conv => whnf)
  have pa := ha _ (List.getElem_mem h1)
  have pb := hb _ (List.getElem_mem h2)
  refine (lower_ok a.nums[0].low b.nums[0].low pa.1 pb.1).useQ (.refl _) ?_
  conv => whnf
  refine (upper_ok a.nums[0].high b.nums[0].high pa.2 pb.2).useQ (.refl _) ?_
  conv => whnf
  refine (hollow_ok ⟨lowerS a.nums[0].low b.nums[0].low, upperS a.nums[0].high b.nums[0].high⟩ (spBounds pa pb)).useQ (.refl _) ?_
  conv => whnf
  exact retB TTok rfl (tt_congr ⟨fun h _ _ => h, fun h => h h1 h2⟩)
end Go.Ab
set_option linter.unusedVariables false
set_option linter.unusedSimpArgs false
set_option maxRecDepth 4000
namespace Go.Ab
open Go.Proofs

/-- Where the first element of a list is that a test takes; -1: none is. -/
def idxP {α : Type} (p : α → Bool) (l : List α) : Int := match l.findIdx? p with
  | some i => i
  | none => -1
theorem idxP_ge {α : Type} (p : α → Bool) (l : List α) : decide (idxP p l ≥ 0) = l.any p := by
  unfold idxP
  cases h : l.findIdx? p with
  | some i =>
    have hi := List.findIdx?_eq_some_iff_getElem.1 h
    obtain ⟨hlt, hp, _⟩ := hi
    have : l.any p = true := List.any_eq_true.2 ⟨l[i], List.getElem_mem hlt, hp⟩
    rw [this]; simp
  | none =>
    have := List.findIdx?_eq_none_iff.1 h
    have h2 : l.any p = false := by rw [List.any_eq_false]; intro x hx; rw [this x hx]; simp
    rw [h2]; simp
theorem idxP_at {α : Type} {p : α → Bool} {l : List α} {k : Nat} (hk : k < l.length) (hn : ∀ j (h : j < l.length), j < k → p l[j] = false) (hp : p l[k] = true) : idxP p l = k := by
  unfold idxP
  have : l.findIdx? p = some k := List.findIdx?_eq_some_iff_getElem.2 ⟨hk, hp, fun j hj => by rw [hn j (by omega) hj]; simp⟩
  rw [this]
theorem idxP_none {α : Type} {p : α → Bool} {l : List α} (hn : ∀ j (h : j < l.length), p l[j] = false) : idxP p l = -1 := by
  unfold idxP
  have : l.findIdx? p = none := List.findIdx?_eq_none_iff.2 fun x hx => by
    obtain ⟨j, hj, rfl⟩ := List.mem_iff_getElem.1 hx
    rw [hn j hj]
  rw [this]

theorem index_ok (l : List ByteArray) (s : ByteArray) : PCall Tryz.prog 97 [vStrs l, vStr s] (vInt (idxP (fun x => tt (x = s)) l)) := by
  refine PCall.bd Tryz.func97 rfl (by decide) rfl rfl (fun hbd => ?_)
  have hl : l.length ≤ 140737488355328 := bd_map (hbd 0 (by simp))
  refine PCall.of_fx TTok mixed Tryz.func97 rfl (by decide) rfl rfl ?_
  conv => whnf
  refine ⟨SExec.loop_p l.length (fun k => ∀ j (h : j < l.length), j < k → tt (l[j] = s) = false) (fun k => ⟨19, [(8, vInt k), (7, vInt l.length), (6, vStrs l), (1, vStr s), (0, vStrs l)], []⟩) (fun j _ h => absurd h (Nat.not_lt_zero _))
    (fun k => Nat.le_refl _) (St.subD_of rfl [] rfl rfl (.cons (.refl _) rfl (.cons (.of_eq (vInt_len ..)) rfl (.cons (.refl _) rfl (.cons (.refl _) rfl (.cons (.refl _) rfl .nil)))))) ?_⟩
  intro k hk hI
  refine fx_sound TTok mixed ?_
  conv => whnf
  refine bsel_intro (fun hlt => ?_) (fun hlt => ?_)
  · have hlt : k < l.length := by simpa using hlt
    conv => whnf
    refine idxStr hlt rfl ?_
    conv => whnf
    refine bsel_intro (fun h1 => ?_) (fun h1 => ?_)
    · have h1 : s = l[k] := strEq_iff.1 (by simpa using h1)
      conv => whnf
      exact retI TTok rfl (idxP_at hlt hI (tt_iff.2 h1.symm)).symm
    · have h1 : s ≠ l[k] := strEq_not.1 (by simpa using h1)
      conv => whnf
      refine ⟨⟨hlt, fun j h hj => ?_⟩, St.subD_of rfl _ rfl rfl (.cons (.of_eq (vInt_succ k (by omega))) rfl (.cons (.refl _) rfl (.cons (.refl _) rfl (.cons (.refl _) rfl (.cons (.refl _) rfl .nil)))))⟩
      by_cases e : j = k
      · subst e; exact tt_not.2 fun h => h1 h.symm
      · exact hI j h (by omega)
  · have hge : l.length ≤ k := by simpa using hlt
    conv => whnf
    exact retI TTok rfl (idxP_none fun j h => hI j h (by omega)).symm
theorem contains_ok (l : List ByteArray) (s : ByteArray) : PCall Tryz.prog 75 [vStrs l, vStr s] (vBool (tt (s ∈ l))) := by
  refine PCall.of_fx TTok mixed Tryz.func75 rfl (by decide) rfl rfl ?_
  conv => whnf
  refine (index_ok l s).use (.refl _) ?_
  conv => whnf
  exact retB TTok rfl ((idxP_ge _ _).trans (tt_eq (by rw [List.any_eq_true]; exact ⟨fun ⟨x, hx, e⟩ => (tt_iff.1 e) ▸ hx, fun h => ⟨s, h, tt_iff.2 rfl⟩⟩)))

/-- A test that is a closure, over the caller's own things. -/
theorem indexFunc_ok (f : FuncId) (c0 : V) (cs : List V) (H : List O) (hH : hpLt H.length H = true) (hcap : lts H.length (c0 :: cs) = true) (p : ByteArray → Bool) (l : List ByteArray) (hl : l.length ≤ 140737488355328)
    (hc : ∀ s ∈ l, HCall Tryz.prog f (vStr s :: c0 :: cs) H (vBool (p s))) : HCall Tryz.prog 96 [vStrs l, .fn (.func f) [] (c0 :: cs)] H (vInt (idxP p l)) := by
  refine HCall.of_fx TTok mixed Tryz.func96 rfl (by decide) rfl ?_
  have hf : (V.fn (.func f) [] (c0 :: cs)).lt H.length = true := by (simp only [V.lt, Bool.and_eq_true]; exact ⟨rfl, hcap⟩)
  conv => whnf
  refine ⟨SExec.loop_p l.length (fun k => ∀ j (h : j < l.length), j < k → p l[j] = false) (fun k => ⟨19, [(8, vInt k), (7, vInt l.length), (6, vStrs l), (1, .fn (.func f) [] (c0 :: cs)), (0, vStrs l)], H⟩) (fun j _ h => absurd h (Nat.not_lt_zero _))
    (fun k => Nat.le_refl _) (St.subD_of rfl [] (List.append_nil _).symm hH (.cons (.refl _) rfl (.cons (.of_eq (vInt_len ..)) rfl (.cons (.refl _) rfl (.cons (.refl _) hf (.cons (.refl _) rfl .nil)))))) ?_⟩
  intro k hk hI
  refine fx_sound TTok mixed ?_
  conv => whnf
  refine bsel_intro (fun hlt => ?_) (fun hlt => ?_)
  · have hlt : k < l.length := by simpa using hlt
    conv => whnf
    refine idxStr hlt rfl ?_
    conv => whnf
    refine (hc _ (List.getElem_mem hlt)).use (.refl _) ?_
    conv => whnf
    refine bsel_intro (fun h1 => ?_) (fun h1 => ?_)
    · have h1 : p l[k] = true := by simpa using h1
      conv => whnf
      exact retH (extra := []) TTok rfl (List.append_nil _).symm hH (.of_eq (by rw [idxP_at hlt hI h1]; rfl)) rfl
    · have h1 : p l[k] = false := by simpa using h1
      conv => whnf
      refine ⟨⟨hlt, fun j h hj => ?_⟩, St.subD_of rfl [] (List.append_nil _).symm hH (.cons (.of_eq (vInt_succ k (by omega))) rfl (.cons (.refl _) rfl (.cons (.refl _) rfl (.cons (.refl _) hf (.cons (.refl _) rfl .nil)))))⟩
      by_cases e : j = k
      · subst e; exact h1
      · exact hI j h (by omega)
  · have hge : l.length ≤ k := by simpa using hlt
    conv => whnf
    exact retH (extra := []) TTok rfl (List.append_nil _).symm hH (.of_eq (by rw [idxP_none fun j h => hI j h (by omega)]; rfl)) rfl
theorem containsFunc_ok (f : FuncId) (c0 : V) (cs : List V) (H : List O) (hH : hpLt H.length H = true) (hcap : lts H.length (c0 :: cs) = true) (p : ByteArray → Bool) (l : List ByteArray) (hl : l.length ≤ 140737488355328)
    (hc : ∀ s ∈ l, HCall Tryz.prog f (vStr s :: c0 :: cs) H (vBool (p s))) : HCall Tryz.prog 73 [vStrs l, .fn (.func f) [] (c0 :: cs)] H (vBool (l.any p)) := by
  refine HCall.of_fx TTok mixed Tryz.func73 rfl (by decide) rfl ?_
  conv => whnf
  refine (indexFunc_ok f c0 cs H hH hcap p l hl hc).use (.refl _) ?_
  conv => whnf
  exact retH (extra := []) TTok rfl (List.append_nil _).symm hH (.of_eq (by rw [← idxP_ge]; rfl)) rfl
end Go.Ab
set_option linter.unusedVariables false
set_option linter.unusedSimpArgs false
set_option maxRecDepth 4000
namespace Go.Ab
open Go.Proofs

theorem bnever_ok (t : Ty) : PCall Tryz.prog 30 [vTy t] (vBool (decide (kinds t = 0))) := by
  refine PCall.of_fx TTok mixed Tryz.func30 rfl (by decide) rfl rfl ?_
  conv => whnf
  refine (kinds_ok t).use (.refl _) ?_
  conv => whnf
  exact retB TTok rfl (by
    show (((kinds t : Nat) : Int) == 0) = decide (kinds t = 0)
    by_cases h : kinds t = 0 <;> simp [h])

theorem tyKinds_120 : tyKinds 120 = .mk false false false false [spOpen] true [] [arOpen] [obOpen] := by
  have e : ∀ k b, bit 120 k = b → bit 120 k = b := fun _ _ h => h
  unfold tyKinds tyOf
  rw [if_neg (by decide)]
  rfl
theorem laid_ok (t : Ty) : PCall Tryz.prog 36 [vTy t] (vTy (laid t)) := by
  refine PCall.of_fx TTok mixed Tryz.func36 rfl (by decide) rfl rfl ?_
  conv => whnf
  refine bsel_intro (fun h1 => ?_) (fun h1 => ?_)
  · have h1 : t.all = false := by simpa using h1
    have e : laid t = t := by rw [laid, if_neg (by simp [h1])]
    rw [e]
    conv => whnf
    exact retP TTok rfl (.refl _) rfl
  · have h1 : t.all = true := by simpa using h1
    have e : laid t = tyLaid := by rw [laid, if_pos h1]
    rw [e]
    conv => whnf
    have h2 := ofKinds_ok 120 (by omega)
    rw [tyKinds_120] at h2
    refine h2.use (.refl _) ?_
    conv => whnf
    exact retP TTok rfl (.refl _) rfl

theorem btexts1_ok (b : Ty) (s : ByteArray) (o : O) (X : List O) (hX : hpLt (o :: .row 58 (cellsV (vTy b)) :: X).length (o :: .row 58 (cellsV (vTy b)) :: X) = true) : HCall Tryz.prog 74 [vStr s, .bx 1 0] (o :: .row 58 (cellsV (vTy b)) :: X) (vBool (!tt (s ∈ b.texts))) := by
  refine HCall.of_fx TTok mixed Tryz.func74 rfl (by decide) rfl ?_
  conv => whnf
  refine (contains_ok b.texts s).use (.refl _) ?_
  conv => whnf
  exact retH (extra := []) TTok rfl (List.append_nil _).symm hX (.of_eq rfl) rfl
theorem btexts_ok (a b : Ty) : PCall Tryz.prog 33 [vTy a, vTy b] (vBool (tt (TextsIn a b))) := by
  refine PCall.bd Tryz.func33 rfl (by decide) rfl rfl (fun hbd => ?_)
  have hb := (deep_of (hbd 0 (by simp))).bd.texts
  simp only [maxRows] at hb
  refine PCall.of_fx TTok mixed Tryz.func33 rfl (by decide) rfl rfl ?_
  conv => whnf
  refine bsel_intro (fun h1 => ?_) (fun h1 => ?_)
  · have h1 : b.anyText = false := by simpa using h1
    conv => whnf
    refine bsel_intro (fun h2 => ?_) (fun h2 => ?_)
    · have h2 : a.anyText = true := by simpa using h2
      conv => whnf
      exact retB TTok rfl (tt_eq (by unfold TextsIn; simp [h1, h2]))
    · have h2 : a.anyText = false := by simpa using h2
      conv => whnf
      refine (containsFunc_ok _ (.bx 1 0) [] _ rfl rfl (fun s => !tt (s ∈ b.texts)) a.texts hb fun s _ => btexts1_ok b s _ [] rfl).use (.refl _) ?_
      conv => whnf
      refine retB TTok rfl (tt_eq ?_)
      unfold TextsIn
      simp only [Bool.not_eq_true', List.any_eq_false, h1, h2]
      simp [tt_iff]
  · have h1 : b.anyText = true := by simpa using h1
    conv => whnf
    exact retB TTok rfl (tt_eq (by unfold TextsIn; simp [h1]))
theorem atexts1_ok (b : Ty) (s : ByteArray) (o : O) (X : List O) (hX : hpLt (o :: .row 58 (cellsV (vTy b)) :: X).length (o :: .row 58 (cellsV (vTy b)) :: X) = true) : HCall Tryz.prog 85 [vStr s, .bx 1 0] (o :: .row 58 (cellsV (vTy b)) :: X) (vBool (tt (s ∈ b.texts))) := by
  refine HCall.of_fx TTok mixed Tryz.func85 rfl (by decide) rfl ?_
  conv => whnf
  refine (contains_ok b.texts s).use (.refl _) ?_
  conv => whnf
  exact retH (extra := []) TTok rfl (List.append_nil _).symm hX (.of_eq rfl) rfl
theorem atexts_ok (a b : Ty) : PCall Tryz.prog 49 [vTy a, vTy b] (vBool (tt (TextsAp a b))) := by
  refine PCall.bd Tryz.func49 rfl (by decide) rfl rfl (fun hbd => ?_)
  have hb := (deep_of (hbd 0 (by simp))).bd.texts
  simp only [maxRows] at hb
  clear hbd
  obtain ⟨a0, a1, a2, a3, a4, ax, at', a7, a8⟩ := a
  obtain ⟨b0, b1, b2, b3, b4, bx, bt', b7, b8⟩ := b
  refine PCall.of_fx TTok mixed Tryz.func49 rfl (by decide) rfl rfl ?_
  have len0 : ∀ {l : List ByteArray} {c : Bool}, (((l.map strC).length : Int) == 0) = c → (c = true ↔ l = []) := fun {l c} h => by subst h; cases l <;> simp; omega
  cases ax <;> cases bx
  · conv => whnf
    refine (containsFunc_ok _ (.bx 1 0) [] _ rfl rfl (fun s => tt (s ∈ bt')) at' hb fun s _ => atexts1_ok (.mk b0 b1 b2 b3 b4 false bt' b7 b8) s _ [] rfl).use (.refl _) ?_
    conv => whnf
    refine retB TTok rfl (tt_eq ?_)
    unfold TextsAp
    simp only [Bool.not_eq_true', List.any_eq_false]
    simp [tt_iff, Ty.anyText, Ty.texts]
  all_goals conv => whnf
  · refine bsel_intro (fun h1 => ?_) (fun h1 => ?_)
    · have h1 := (len0 (l := at') (beqT h1)).1 rfl
      conv => whnf
      exact retB TTok rfl (tt_eq ((len0 rfl).trans (by unfold TextsAp; simp [Ty.anyText, Ty.texts] at h1 ⊢; simp [h1])))
    · have h1 : ¬ at' = [] := fun e => by have := (len0 (l := at') (beqT h1)).2 e; cases this
      conv => whnf
      exact retB TTok rfl (tt_f fun h => h1 (h.1 (.inr rfl)).2.1)
  · refine bsel_intro (fun h1 => ?_) (fun h1 => ?_)
    · have h1 := (len0 (l := at') (beqT h1)).1 rfl
      conv => whnf
      exact retB TTok rfl (tt_eq ((len0 rfl).trans (by unfold TextsAp; simp [Ty.anyText, Ty.texts] at h1 ⊢; simp [h1])))
    · have h1 : ¬ at' = [] := fun e => by have := (len0 (l := at') (beqT h1)).2 e; cases this
      conv => whnf
      exact retB TTok rfl (tt_f fun h => h1 (h.1 (.inl rfl)).2.1)
  · exact retB TTok rfl (tt_f fun h => (h.1 (.inl rfl)).1 ⟨rfl, rfl⟩)
end Go.Ab
set_option linter.unusedVariables false
set_option linter.unusedSimpArgs false
set_option maxRecDepth 4000
namespace Go.Ab
open Go.Proofs

theorem strEq_refl (a : ByteArray) : strEq a a = true := strEq_iff.2 rfl
theorem cisNaN_ok (a : ByteArray) : PCall Tryz.prog 130 [vStr a] (vBool false) := by
  refine PCall.of_fx TTok mixed Tryz.func130 rfl (by decide) rfl rfl ?_
  conv => whnf
  exact retB TTok rfl (by simp [strEq_refl])
theorem sisNaN_ok (a : ByteArray) : PCall Tryz.prog 119 [vStr a] (vBool false) := by
  refine PCall.of_fx TTok mixed Tryz.func119 rfl (by decide) rfl rfl ?_
  conv => whnf
  exact retB TTok rfl (by simp [strEq_refl])
theorem less_ok (a b : ByteArray) : PCall Tryz.prog 118 [vStr a, vStr b] (vBool (strLt a b)) := by
  refine PCall.of_fx TTok mixed Tryz.func118 rfl (by decide) rfl rfl ?_
  conv => whnf
  refine (cisNaN_ok a).use (.refl _) ?_
  conv => whnf
  exact retB TTok rfl rfl

theorem wrapU {n : Int} (h : 0 ≤ n) (k : n < 18446744073709551616) : IntKind.u64.wrap n = n := by
  unfold IntKind.wrap; simp [IntKind.bits, IntKind.signed]; omega
theorem idx_conv {rows : List (List D)} {i j : Int} {n : Nat} {K : V → List O → Prop} {H : List O} (e : i = j) (h : IdxS rows j n K H) : IdxS rows i n K H := e ▸ h
set_option maxHeartbeats 2000000 in
theorem bsearch_ok (l : List ByteArray) (s : ByteArray) (hs : Sorted l) : PCall Tryz.prog 112 [vStrs l, vStr s] (.tup [vInt (seat l s), vBool (tt (s ∈ l))]) := by
  refine PCall.bd Tryz.func112 rfl (by decide) rfl rfl (fun hbd => ?_)
  have hl : l.length ≤ 140737488355328 := bd_map (hbd 0 (by simp))
  refine PCall.of_fx TTok mixed Tryz.func112 rfl (by decide) rfl rfl ?_
  conv => whnf
  refine ⟨SExec.loop_i (fun p : Nat × Nat => ⟨54, [(8, vInt p.2), (7, vInt p.1), (6, vInt l.length), (1, vStr s), (0, vStrs l)], []⟩)
    (fun p => p.1 ≤ p.2 ∧ p.2 ≤ l.length ∧ (∀ k (h : k < l.length), k < p.1 → strLt l[k] s = true) ∧ ∀ k (h : k < l.length), p.2 ≤ k → strLt l[k] s = false) (fun p => p.2 - p.1)
    (0, l.length) ⟨by omega, by dsimp only; omega, fun k _ h => absurd h (Nat.not_lt_zero _), fun k h h' => by dsimp only at h'; omega⟩
    (fun k => Nat.le_refl _) (St.subD_of rfl [] rfl rfl (.cons (.of_eq (vInt_len ..)) rfl (.cons (.refl _) rfl (.cons (.of_eq (vInt_len ..)) rfl (.cons (.refl _) rfl (.cons (.refl _) rfl .nil)))))) ?_⟩
  rintro ⟨i, j⟩ ⟨hij, hj, h1, h2⟩
  dsimp only at hij hj h1 h2
  refine fx_sound TTok mixed ?_
  conv => whnf
  refine bsel_intro (fun hlt => ?_) (fun hlt => ?_)
  · have hlt : i < j := by simpa using hlt
    have hm : (i + j) / 2 < l.length := by omega
    have em : IntKind.i64.wrap ((IntKind.u64.wrap (IntKind.i64.wrap (((i : Nat) : Int) + ((j : Nat) : Int)))).fdiv (2 ^ min (Int.toNat 1) IntKind.u64.bits)) = (((i + j) / 2 : Nat) : Int) := by
      rw [wrap_id (n := (i : Int) + j) (by omega) (by omega), wrapU (by omega) (by omega)]
      have e2 : (2 : Int) ^ min (Int.toNat 1) IntKind.u64.bits = 2 := by decide
      rw [e2, Int.fdiv_eq_ediv_of_nonneg _ (by decide), wrap_id (by omega) (by omega)]
      omega
    conv => whnf
    refine idx_conv em (idxStr hm rfl ?_)
    conv => whnf
    refine (less_ok l[(i + j) / 2] s).use (.refl _) ?_
    conv => whnf
    refine bsel_intro (fun hc => ?_) (fun hc => ?_)
    · have hc : strLt l[(i + j) / 2] s = true := by simpa using hc
      conv => whnf
      refine ⟨((i + j) / 2 + 1, j), ⟨by dsimp only; omega, hj, fun k h hk => ?_, h2⟩, by dsimp only; omega, St.subD_of rfl _ rfl rfl (.cons (.refl _) rfl (.cons (.of_eq ((congrArg (fun z => V.d (.lit (.int .i64 (IntKind.i64.wrap (z + 1))))) em).trans (vInt_succ _ (by omega)))) rfl (.cons (.refl _) rfl (.cons (.refl _) rfl (.cons (.refl _) rfl .nil)))))⟩
      · dsimp only at hk
        by_cases e : k = (i + j) / 2
        · subst e; exact hc
        · exact strLt_trans (hs k _ h hm (by omega)) hc
    · have hc : strLt l[(i + j) / 2] s = false := by simpa using hc
      conv => whnf
      refine ⟨(i, (i + j) / 2), ⟨by dsimp only; omega, by dsimp only; omega, h1, fun k h hk => ?_⟩, by dsimp only; omega, St.subD_of rfl _ rfl rfl (.cons (.of_eq (congrArg vInt em)) rfl (.cons (.refl _) rfl (.cons (.refl _) rfl (.cons (.refl _) rfl (.cons (.refl _) rfl .nil)))))⟩
      dsimp only at hk
      by_cases e : k = (i + j) / 2
      · subst e; exact hc
      · cases hx : strLt l[k] s with
        | false => rfl
        | true => have := strLt_trans (hs _ k hm h (by omega)) hx; rw [hc] at this; cases this
  · have hge : i = j := by have : j ≤ i := by simpa using hlt
                           omega
    subst hge
    have hmem := seat_mem hs h1 h2
    have hseat := seat_eq hj h1 h2
    rw [hseat]
    conv => whnf
    refine bsel_intro (fun hi => ?_) (fun hi => ?_)
    · have hi : i < l.length := by simpa using hi
      conv => whnf
      refine idxStr hi rfl ?_
      conv => whnf
      refine bsel_intro (fun he => ?_) (fun he => ?_)
      · have he : l[i] ≠ s := strEq_not.1 (by simpa using he)
        conv => whnf
        refine idxStr hi rfl ?_
        conv => whnf
        refine (sisNaN_ok l[i]).use (.refl _) ?_
        conv => whnf
        exact retP TTok rfl (.of_eq (by rw [tt_not.2 (fun h => he (hmem.1 h).2)]; rfl)) rfl
      · have he : l[i] = s := strEq_iff.1 (by simpa using he)
        conv => whnf
        exact retP TTok rfl (.of_eq (by rw [tt_iff.2 (hmem.2 ⟨hi, he⟩)]; rfl)) rfl
    · have hi : ¬ i < l.length := by simpa using hi
      conv => whnf
      exact retP TTok rfl (.of_eq (by rw [tt_not.2 (fun h => hi (hmem.1 h).1)]; rfl)) rfl

theorem field_ok (o : Ob) (n : ByteArray) (hs : Sorted o.names) (h1 : o.names.length = o.fields.length) (h2 : o.names.length = o.must.length) : PCall Tryz.prog 100 [vOb o, vStr n] (.tup [vTy (fieldO o n).1, vBool (fieldO o n).2]) := by
  refine PCall.of_fx TTok mixed Tryz.func100 rfl (by decide) rfl rfl ?_
  conv => whnf
  refine (bsearch_ok o.names n hs).use (.refl _) ?_
  conv => whnf
  refine bsel_intro (fun hc => ?_) (fun hc => ?_)
  · have hc : n ∈ o.names := tt_iff.1 (by simpa using hc)
    obtain ⟨m, hm, hk⟩ := List.mem_iff_getElem.1 hc
    have hseat : seat o.names n = m := seat_eq (by omega) (fun k h hlt => by rw [← hk]; exact hs k m h hm hlt) (fun k h hle => by
      by_cases e : m = k
      · subst e; rw [hk]; exact strLt_irrefl n
      · cases hx : strLt o.names[k] n with
        | false => rfl
        | true =>
          have := strLt_trans (hs m k hm h (by omega)) hx
          rw [hk, strLt_irrefl] at this; cases this)
    have hw := whereL_at hs hm hk
    have e1 : fieldO o n = (o.fields[m]'(by omega), o.must[m]'(by omega)) := by
      unfold fieldO
      rw [hw]
      simp only [List.getD_eq_getElem?_getD]
      rw [List.getElem?_eq_getElem (by omega), List.getElem?_eq_getElem (by omega)]; rfl
    rw [e1]
    rw [hseat]
    conv => whnf
    refine ⟨SExec.region_fE TTok mixed 1 (by decide +kernel) rfl rfl ?_⟩
    conv => whnf
    refine idxTy (by omega) rfl ?_
    conv => whnf
    refine idxBool (by omega) rfl ?_
    conv => whnf
    exact retP TTok rfl (.refl _) rfl
  · have hc : n ∉ o.names := tt_not.1 (by simpa using hc)
    have e1 : fieldO o n = (o.rest, false) := by
      unfold fieldO
      rw [whereL_none.2 hc]
    rw [e1]
    conv => whnf
    exact retP TTok rfl (.refl _) rfl
end Go.Ab
set_option linter.unusedVariables false
set_option linter.unusedSimpArgs false
set_option maxRecDepth 4000
namespace Go.Ab
open Go.Proofs

/-- A test that is a closure, over the caller's own things. -/
theorem indexFuncO_ok (f : FuncId) (c0 : V) (cs : List V) (H : List O) (hH : hpLt H.length H = true) (hcap : lts H.length (c0 :: cs) = true) (p : Ob → Bool) (l : List Ob) (hl : l.length ≤ 140737488355328)
    (hc : ∀ s ∈ l, HCall Tryz.prog f (vOb s :: c0 :: cs) H (vBool (p s))) : HCall Tryz.prog 98 [vObs l, .fn (.func f) [] (c0 :: cs)] H (vInt (idxP p l)) := by
  refine HCall.of_fx TTok mixed Tryz.func98 rfl (by decide) rfl ?_
  have hf : (V.fn (.func f) [] (c0 :: cs)).lt H.length = true := by (simp only [V.lt, Bool.and_eq_true]; exact ⟨rfl, hcap⟩)
  conv => whnf
  refine ⟨SExec.loop_p l.length (fun k => ∀ j (h : j < l.length), j < k → p l[j] = false) (fun k => ⟨19, [(8, vInt k), (7, vInt l.length), (6, vObs l), (1, .fn (.func f) [] (c0 :: cs)), (0, vObs l)], H⟩) (fun j _ h => absurd h (Nat.not_lt_zero _))
    (fun k => Nat.le_refl _) (St.subD_of rfl [] (List.append_nil _).symm hH (.cons (.refl _) rfl (.cons (.of_eq (vInt_len ..)) rfl (.cons (.refl _) rfl (.cons (.refl _) hf (.cons (.refl _) rfl .nil)))))) ?_⟩
  intro k hk hI
  refine fx_sound TTok mixed ?_
  conv => whnf
  refine bsel_intro (fun hlt => ?_) (fun hlt => ?_)
  · have hlt : k < l.length := by simpa using hlt
    conv => whnf
    refine idxOb hlt rfl ?_
    conv => whnf
    refine (hc _ (List.getElem_mem hlt)).use (.refl _) ?_
    conv => whnf
    refine bsel_intro (fun h1 => ?_) (fun h1 => ?_)
    · have h1 : p l[k] = true := by simpa using h1
      conv => whnf
      exact retH (extra := []) TTok rfl (List.append_nil _).symm hH (.of_eq (by rw [idxP_at hlt hI h1]; rfl)) rfl
    · have h1 : p l[k] = false := by simpa using h1
      conv => whnf
      refine ⟨⟨hlt, fun j h hj => ?_⟩, St.subD_of rfl [] (List.append_nil _).symm hH (.cons (.of_eq (vInt_succ k (by omega))) rfl (.cons (.refl _) rfl (.cons (.refl _) rfl (.cons (.refl _) hf (.cons (.refl _) rfl .nil)))))⟩
      by_cases e : j = k
      · subst e; exact h1
      · exact hI j h (by omega)
  · have hge : l.length ≤ k := by simpa using hlt
    conv => whnf
    exact retH (extra := []) TTok rfl (List.append_nil _).symm hH (.of_eq (by rw [idxP_none fun j h => hI j h (by omega)]; rfl)) rfl
theorem containsFuncO_ok (f : FuncId) (c0 : V) (cs : List V) (H : List O) (hH : hpLt H.length H = true) (hcap : lts H.length (c0 :: cs) = true) (p : Ob → Bool) (l : List Ob) (hl : l.length ≤ 140737488355328)
    (hc : ∀ s ∈ l, HCall Tryz.prog f (vOb s :: c0 :: cs) H (vBool (p s))) : HCall Tryz.prog 76 [vObs l, .fn (.func f) [] (c0 :: cs)] H (vBool (l.any p)) := by
  refine HCall.of_fx TTok mixed Tryz.func76 rfl (by decide) rfl ?_
  conv => whnf
  refine (indexFuncO_ok f c0 cs H hH hcap p l hl hc).use (.refl _) ?_
  conv => whnf
  exact retH (extra := []) TTok rfl (List.append_nil _).symm hH (.of_eq (by rw [← idxP_ge]; rfl)) rfl

/-- What is asked of below.names: its own text is shown elsewhere. -/
def NamesC : Prop := ∀ a b : Ob, a.names.length ≤ 2000 → b.names.length ≤ 2000 → ∃ l : List ByteArray, l.length ≤ 4000 ∧ PCall Tryz.prog 99 [vOb a, vOb b] (vStrs l) ∧ ∀ n, n ∈ l ↔ Names2 a b n

set_option maxHeartbeats 2000000 in
theorem lies_ok (hN : NamesC) (x y : Ob) (wx : ObW x) (wy : ObW y) (hc : ∀ n, PCall Tryz.prog 11 [vTy (fieldO x n).1, vTy (fieldO y n).1] (vBool (tt (BelowP (fieldO x n).1 (fieldO y n).1)))) (hr : PCall Tryz.prog 11 [vTy x.rest, vTy y.rest] (vBool (tt (BelowP x.rest y.rest)))) :
    PCall Tryz.prog 78 [vOb x, vOb y] (vBool (tt (LiesP x y))) := by
  obtain ⟨l, hl, hn, hmem⟩ := hN x y wx.few wy.few
  refine PCall.of_fx TTok mixed Tryz.func78 rfl (by decide) rfl rfl ?_
  conv => whnf
  refine hn.use (.refl _) ?_
  conv => whnf
  refine ⟨SExec.loop_p l.length (fun k => ∀ j (h : j < l.length), j < k → ((fieldO y l[j]).2 = true → (fieldO x l[j]).2 = true) ∧ BelowP (fieldO x l[j]).1 (fieldO y l[j]).1) (fun k => ⟨48, [(15, vInt k), (14, vInt l.length), (13, vStrs l), (3, .bx 1 0), (2, .bx 0 0)], [.row 44 (cellsV (vOb x)), .row 44 (cellsV (vOb y))]⟩) (fun j _ h => absurd h (Nat.not_lt_zero _))
    (fun k => Nat.le_refl _) (St.subD_of rfl [] rfl rfl (.cons (.refl _) rfl (.cons (.of_eq (vInt_len ..)) rfl (.cons (.refl _) rfl (.cons (.refl _) rfl (.cons (.refl _) rfl .nil)))))) ?_⟩
  intro k hk hI
  refine fx_sound TTok mixed ?_
  conv => whnf
  refine bsel_intro (fun hlt => ?_) (fun hlt => ?_)
  · have hlt : k < l.length := by simpa using hlt
    have hnm := (hmem l[k]).1 (List.getElem_mem hlt)
    conv => whnf
    refine idxStr hlt rfl ?_
    conv => whnf
    refine (field_ok x l[k] wx.sorted wx.fields wx.must).use (.refl _) ?_
    conv => whnf
    refine (field_ok y l[k] wy.sorted wy.fields wy.must).use (.refl _) ?_
    conv => whnf
    cases hy2 : (fieldO y l[k]).2 <;> cases hx2 : (fieldO x l[k]).2
    · conv => whnf
      refine (hc l[k]).use (.refl _) ?_
      conv => whnf
      refine bsel_intro (fun hb => ?_) (fun hb => ?_)
      · have hb : ¬BelowP (fieldO x l[k]).1 (fieldO y l[k]).1 := tt_not.1 (by simpa using hb)
        conv => whnf
        exact retB TTok rfl (tt_f fun h => hb (h.field _ hnm))
      · have hb : BelowP (fieldO x l[k]).1 (fieldO y l[k]).1 := tt_iff.1 (by simpa using hb)
        conv => whnf
        refine ⟨⟨hlt, fun j h hj => ?_⟩, St.subD_of rfl _ rfl rfl (.cons (.of_eq (vInt_succ k (by omega))) rfl (.cons (.refl _) rfl (.cons (.refl _) rfl (.cons (.refl _) rfl (.cons (.refl _) rfl .nil)))))⟩
        by_cases e : j = k
        · subst e; exact ⟨fun h => by simp_all, hb⟩
        · exact hI j h (by omega)
    · conv => whnf
      refine (hc l[k]).use (.refl _) ?_
      conv => whnf
      refine bsel_intro (fun hb => ?_) (fun hb => ?_)
      · have hb : ¬BelowP (fieldO x l[k]).1 (fieldO y l[k]).1 := tt_not.1 (by simpa using hb)
        conv => whnf
        exact retB TTok rfl (tt_f fun h => hb (h.field _ hnm))
      · have hb : BelowP (fieldO x l[k]).1 (fieldO y l[k]).1 := tt_iff.1 (by simpa using hb)
        conv => whnf
        refine ⟨⟨hlt, fun j h hj => ?_⟩, St.subD_of rfl _ rfl rfl (.cons (.of_eq (vInt_succ k (by omega))) rfl (.cons (.refl _) rfl (.cons (.refl _) rfl (.cons (.refl _) rfl (.cons (.refl _) rfl .nil)))))⟩
        by_cases e : j = k
        · subst e; exact ⟨fun h => by simp_all, hb⟩
        · exact hI j h (by omega)
    · conv => whnf
      exact retB TTok rfl (tt_f fun h => by have := h.must _ hnm hy2; rw [hx2] at this; cases this)
    · conv => whnf
      refine (hc l[k]).use (.refl _) ?_
      conv => whnf
      refine bsel_intro (fun hb => ?_) (fun hb => ?_)
      · have hb : ¬BelowP (fieldO x l[k]).1 (fieldO y l[k]).1 := tt_not.1 (by simpa using hb)
        conv => whnf
        exact retB TTok rfl (tt_f fun h => hb (h.field _ hnm))
      · have hb : BelowP (fieldO x l[k]).1 (fieldO y l[k]).1 := tt_iff.1 (by simpa using hb)
        conv => whnf
        refine ⟨⟨hlt, fun j h hj => ?_⟩, St.subD_of rfl _ rfl rfl (.cons (.of_eq (vInt_succ k (by omega))) rfl (.cons (.refl _) rfl (.cons (.refl _) rfl (.cons (.refl _) rfl (.cons (.refl _) rfl .nil)))))⟩
        by_cases e : j = k
        · subst e; exact ⟨fun h => by simp_all, hb⟩
        · exact hI j h (by omega)
  · have hge : l.length ≤ k := by simpa using hlt
    conv => whnf
    refine hr.use (.refl _) ?_
    conv => whnf
    have hall : ∀ n, Names2 x y n → ((fieldO y n).2 = true → (fieldO x n).2 = true) ∧ BelowP (fieldO x n).1 (fieldO y n).1 := fun n h => by
      obtain ⟨j, hj, rfl⟩ := List.mem_iff_getElem.1 ((hmem n).2 h)
      exact hI j hj (by omega)
    exact retB TTok rfl (tt_congr ⟨fun h => ⟨fun n hn => (hall n hn).1, fun n hn => (hall n hn).2, h⟩, fun h => h.rest⟩)
end Go.Ab
