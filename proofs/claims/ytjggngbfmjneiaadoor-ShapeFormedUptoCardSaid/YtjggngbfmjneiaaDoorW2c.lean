import Derived.Test.YtjggngbfmjneiaaDoorW2b
set_option linter.unusedVariables false
set_option linter.unusedSimpArgs false
set_option maxRecDepth 4000
namespace Go.Ab
open Go.Proofs

theorem widc3 {s : ByteArray} {i c : Nat} (h : 224 ≤ c ∧ c ≤ 239) : widc s i c = if tt (Trail s (i + 1) 2 (lowOf c) (highOf c)) = true then 3 else 0 := by
  rw [widc, if_neg (by omega), if_neg (by omega)]
  by_cases k : tt (Trail s (i + 1) 2 (lowOf c) (highOf c)) = true
  · rw [if_pos ⟨h.1, h.2, k⟩, if_pos k]
  · rw [if_neg (fun t => k t.2.2), if_neg (by omega), if_neg k]
theorem widc4 {s : ByteArray} {i c : Nat} (h : 240 ≤ c ∧ c ≤ 244) : widc s i c = if tt (Trail s (i + 1) 3 (lowOf c) (highOf c)) = true then 4 else 0 := by
  rw [widc, if_neg (by omega), if_neg (by omega), if_neg (by omega)]
  by_cases k : tt (Trail s (i + 1) 3 (lowOf c) (highOf c)) = true
  · rw [if_pos ⟨h.1, h.2, k⟩, if_pos k]
  · rw [if_neg (fun t => k t.2.2), if_neg k]
theorem widc0 {s : ByteArray} {i c : Nat} (h : 128 ≤ c ∧ c < 194 ∨ 244 < c) : widc s i c = 0 := by
  rw [widc, if_neg (by omega), if_neg (by omega), if_neg (by omega), if_neg (by omega)]

theorem width_ok (s : ByteArray) (i : Nat) (hi : i < s.size) : PCall Tryd.prog 82 [vStr s, vInt i] (vInt (wid s i)) := by
  refine PCall.bd Tryd.func82 rfl (by decide) rfl rfl (fun hbd => ?_)
  have hs : s.size ≤ 4611686018427387904 := D.Bd.str (hbd 0 (by simp))
  generalize hc : bt s i = c
  rw [wid_eq hc]
  refine PCall.of_fx TTok mixed Tryd.func82 rfl (by decide) rfl rfl ?_
  conv => whnf
  refine idxB rfl hi ?_
  rw [hc]
  conv => whnf
  have hw : IntKind.i64.wrap ((i : Int) + 1) = (i + 1 : Nat) := by rw [wrap_id (by omega) (by omega)]; omega
  have ew : V.d (.lit (.int .i64 (IntKind.i64.wrap ((i : Int) + 1)))) = vInt (i + 1 : Nat) := by rw [hw]; rfl
  refine bsel_intro (fun h1 => ?_) (fun h1 => ?_)
  · have h1 : c < 128 := by have := dlt h1; omega
    conv => whnf
    exact retI TTok rfl (by simp [widc, h1])
  have h1 : ¬ c < 128 := by have := dge h1; omega
  conv => whnf
  by_cases c1 : 194 ≤ c ∧ c ≤ 223
  · repeat (first | (refine bsel_true (by first | (simp; done) | (simp [ofNat_cast] at *; omega)) ?_; conv => whnf) | (refine bsel_false (by first | (simp; done) | (simp [ofNat_cast] at *; omega)) ?_; conv => whnf))
    refine (trail_ok s (i + 1) 1 128 191 128 191 rfl rfl (by omega) (by omega) (by omega)).use (.cons (.refl _) (.cons (.of_eq ew) (.refl _))) ?_
    conv => whnf
    refine bsel_intro (fun ht => ?_) (fun ht => ?_)
    · conv => whnf
      exact retI TTok rfl (by simp [widc, h1, c1, ht])
    · conv => whnf
      repeat (first | (refine bsel_true (by first | (simp; done) | (simp [ofNat_cast] at *; omega)) ?_; conv => whnf) | (refine bsel_false (by first | (simp; done) | (simp [ofNat_cast] at *; omega)) ?_; conv => whnf))
      exact retI TTok rfl (by rw [widc, if_neg h1, if_neg (by simp [ht]), if_neg (by omega), if_neg (by omega)]; rfl)
  by_cases c2 : 224 ≤ c ∧ c ≤ 239
  · by_cases e1 : c = 224
    · skip
      repeat (first | (refine bsel_true (by first | (simp; done) | (simp [ofNat_cast] at *; omega)) ?_; conv => whnf) | (refine bsel_false (by first | (simp; done) | (simp [ofNat_cast] at *; omega)) ?_; conv => whnf))
      refine (trail_ok s (i + 1) 2 160 191 (lowOf c) (highOf c) (by simp [lowOf, e1]) (by simp [highOf, e1]) (by omega) (by omega) (by omega)).use (.cons (.refl _) (.cons (.of_eq ew) (.refl _))) ?_
      conv => whnf
      refine bsel_intro (fun ht => ?_) (fun ht => ?_)
      · conv => whnf
        repeat (first | (refine bsel_true (by first | (simp; done) | (simp [ofNat_cast] at *; omega)) ?_; conv => whnf) | (refine bsel_false (by first | (simp; done) | (simp [ofNat_cast] at *; omega)) ?_; conv => whnf))
        exact retI TTok rfl (by rw [widc3 c2, if_pos ht]; rfl)
      · conv => whnf
        repeat (first | (refine bsel_true (by first | (simp; done) | (simp [ofNat_cast] at *; omega)) ?_; conv => whnf) | (refine bsel_false (by first | (simp; done) | (simp [ofNat_cast] at *; omega)) ?_; conv => whnf))
        exact retI TTok rfl (by rw [widc3 c2, if_neg (by simp [ht])]; rfl)
    by_cases e2 : c = 237
    · skip
      repeat (first | (refine bsel_true (by first | (simp; done) | (simp [ofNat_cast] at *; omega)) ?_; conv => whnf) | (refine bsel_false (by first | (simp; done) | (simp [ofNat_cast] at *; omega)) ?_; conv => whnf))
      refine (trail_ok s (i + 1) 2 128 159 (lowOf c) (highOf c) (by simp [lowOf, e2]) (by simp [highOf, e2]) (by omega) (by omega) (by omega)).use (.cons (.refl _) (.cons (.of_eq ew) (.refl _))) ?_
      conv => whnf
      refine bsel_intro (fun ht => ?_) (fun ht => ?_)
      · conv => whnf
        repeat (first | (refine bsel_true (by first | (simp; done) | (simp [ofNat_cast] at *; omega)) ?_; conv => whnf) | (refine bsel_false (by first | (simp; done) | (simp [ofNat_cast] at *; omega)) ?_; conv => whnf))
        exact retI TTok rfl (by rw [widc3 c2, if_pos ht]; rfl)
      · conv => whnf
        repeat (first | (refine bsel_true (by first | (simp; done) | (simp [ofNat_cast] at *; omega)) ?_; conv => whnf) | (refine bsel_false (by first | (simp; done) | (simp [ofNat_cast] at *; omega)) ?_; conv => whnf))
        exact retI TTok rfl (by rw [widc3 c2, if_neg (by simp [ht])]; rfl)
    have e3 : lowOf c = 128 := by unfold lowOf; rw [if_neg (by omega), if_neg e1]
    have e4 : highOf c = 191 := by unfold highOf; rw [if_neg (by omega), if_neg e2]
    repeat (first | (refine bsel_true (by first | (simp; done) | (simp [ofNat_cast] at *; omega)) ?_; conv => whnf) | (refine bsel_false (by first | (simp; done) | (simp [ofNat_cast] at *; omega)) ?_; conv => whnf))
    refine (trail_ok s (i + 1) 2 128 191 (lowOf c) (highOf c) (by simp [e3]) (by simp [e4]) (by omega) (by omega) (by omega)).use (.cons (.refl _) (.cons (.of_eq ew) (.refl _))) ?_
    conv => whnf
    refine bsel_intro (fun ht => ?_) (fun ht => ?_)
    · conv => whnf
      repeat (first | (refine bsel_true (by first | (simp; done) | (simp [ofNat_cast] at *; omega)) ?_; conv => whnf) | (refine bsel_false (by first | (simp; done) | (simp [ofNat_cast] at *; omega)) ?_; conv => whnf))
      exact retI TTok rfl (by rw [widc3 c2, if_pos ht]; rfl)
    · conv => whnf
      repeat (first | (refine bsel_true (by first | (simp; done) | (simp [ofNat_cast] at *; omega)) ?_; conv => whnf) | (refine bsel_false (by first | (simp; done) | (simp [ofNat_cast] at *; omega)) ?_; conv => whnf))
      exact retI TTok rfl (by rw [widc3 c2, if_neg (by simp [ht])]; rfl)
  by_cases c3 : 240 ≤ c ∧ c ≤ 244
  · by_cases e1 : c = 240
    · skip
      repeat (first | (refine bsel_true (by first | (simp; done) | (simp [ofNat_cast] at *; omega)) ?_; conv => whnf) | (refine bsel_false (by first | (simp; done) | (simp [ofNat_cast] at *; omega)) ?_; conv => whnf))
      refine (trail_ok s (i + 1) 3 144 191 (lowOf c) (highOf c) (by simp [lowOf, e1]) (by simp [highOf, e1]) (by omega) (by omega) (by omega)).use (.cons (.refl _) (.cons (.of_eq ew) (.refl _))) ?_
      conv => whnf
      refine bsel_intro (fun ht => ?_) (fun ht => ?_)
      · conv => whnf
        repeat (first | (refine bsel_true (by first | (simp; done) | (simp [ofNat_cast] at *; omega)) ?_; conv => whnf) | (refine bsel_false (by first | (simp; done) | (simp [ofNat_cast] at *; omega)) ?_; conv => whnf))
        exact retI TTok rfl (by rw [widc4 c3, if_pos ht]; rfl)
      · conv => whnf
        repeat (first | (refine bsel_true (by first | (simp; done) | (simp [ofNat_cast] at *; omega)) ?_; conv => whnf) | (refine bsel_false (by first | (simp; done) | (simp [ofNat_cast] at *; omega)) ?_; conv => whnf))
        exact retI TTok rfl (by rw [widc4 c3, if_neg (by simp [ht])]; rfl)
    by_cases e2 : c = 244
    · skip
      repeat (first | (refine bsel_true (by first | (simp; done) | (simp [ofNat_cast] at *; omega)) ?_; conv => whnf) | (refine bsel_false (by first | (simp; done) | (simp [ofNat_cast] at *; omega)) ?_; conv => whnf))
      refine (trail_ok s (i + 1) 3 128 143 (lowOf c) (highOf c) (by simp [lowOf, e2]) (by simp [highOf, e2]) (by omega) (by omega) (by omega)).use (.cons (.refl _) (.cons (.of_eq ew) (.refl _))) ?_
      conv => whnf
      refine bsel_intro (fun ht => ?_) (fun ht => ?_)
      · conv => whnf
        repeat (first | (refine bsel_true (by first | (simp; done) | (simp [ofNat_cast] at *; omega)) ?_; conv => whnf) | (refine bsel_false (by first | (simp; done) | (simp [ofNat_cast] at *; omega)) ?_; conv => whnf))
        exact retI TTok rfl (by rw [widc4 c3, if_pos ht]; rfl)
      · conv => whnf
        repeat (first | (refine bsel_true (by first | (simp; done) | (simp [ofNat_cast] at *; omega)) ?_; conv => whnf) | (refine bsel_false (by first | (simp; done) | (simp [ofNat_cast] at *; omega)) ?_; conv => whnf))
        exact retI TTok rfl (by rw [widc4 c3, if_neg (by simp [ht])]; rfl)
    have e3 : lowOf c = 128 := by unfold lowOf; rw [if_neg e1, if_neg (by omega)]
    have e4 : highOf c = 191 := by unfold highOf; rw [if_neg e2, if_neg (by omega)]
    repeat (first | (refine bsel_true (by first | (simp; done) | (simp [ofNat_cast] at *; omega)) ?_; conv => whnf) | (refine bsel_false (by first | (simp; done) | (simp [ofNat_cast] at *; omega)) ?_; conv => whnf))
    refine (trail_ok s (i + 1) 3 128 191 (lowOf c) (highOf c) (by simp [e3]) (by simp [e4]) (by omega) (by omega) (by omega)).use (.cons (.refl _) (.cons (.of_eq ew) (.refl _))) ?_
    conv => whnf
    refine bsel_intro (fun ht => ?_) (fun ht => ?_)
    · conv => whnf
      repeat (first | (refine bsel_true (by first | (simp; done) | (simp [ofNat_cast] at *; omega)) ?_; conv => whnf) | (refine bsel_false (by first | (simp; done) | (simp [ofNat_cast] at *; omega)) ?_; conv => whnf))
      exact retI TTok rfl (by rw [widc4 c3, if_pos ht]; rfl)
    · conv => whnf
      repeat (first | (refine bsel_true (by first | (simp; done) | (simp [ofNat_cast] at *; omega)) ?_; conv => whnf) | (refine bsel_false (by first | (simp; done) | (simp [ofNat_cast] at *; omega)) ?_; conv => whnf))
      exact retI TTok rfl (by rw [widc4 c3, if_neg (by simp [ht])]; rfl)
  by_cases c4 : c < 194
  · repeat (first | (refine bsel_true (by first | (simp; done) | (simp [ofNat_cast] at *; omega)) ?_; conv => whnf) | (refine bsel_false (by first | (simp; done) | (simp [ofNat_cast] at *; omega)) ?_; conv => whnf))
    exact retI TTok rfl (by rw [widc0 (by omega)]; rfl)
  · repeat (first | (refine bsel_true (by first | (simp; done) | (simp [ofNat_cast] at *; omega)) ?_; conv => whnf) | (refine bsel_false (by first | (simp; done) | (simp [ofNat_cast] at *; omega)) ?_; conv => whnf))
    exact retI TTok rfl (by rw [widc0 (by omega)]; rfl)
end Go.Ab
