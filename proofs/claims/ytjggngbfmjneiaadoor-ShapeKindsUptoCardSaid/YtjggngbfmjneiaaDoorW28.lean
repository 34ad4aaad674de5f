import Derived.Test.YtjggngbfmjneiaaDoorW27
set_option linter.unusedVariables false
set_option linter.unusedSimpArgs false
set_option maxRecDepth 4000
namespace Go.Ab
open Go.Proofs

theorem VOk.kinds {v : Val} (h : VOk v) : v.kind = 0 ∨ v.kind = 1 ∨ v.kind = 2 ∨ v.kind = 3 ∨ v.kind = 4 ∨ v.kind = 5 ∨ v.kind = 6 := by
  have := (vok_iff.1 h).1
  omega
theorem kinds_lt (t : Ty) : kinds t < 128 := by
  unfold kinds
  split
  · decide
  · exact kN_lt ..
theorem spOpen_ok : SpOk spOpen := ⟨.inl rfl, .inl rfl⟩
theorem inOk_all : InOk tyAll := .mk (fun _ h => by cases h) (fun _ h => by cases h) (fun _ h => by cases h) (fun _ h => by cases h)
theorem inOk_kinds (n : Nat) : InOk (tyKinds n) := by
  unfold tyKinds
  split
  · exact inOk_all
  · refine .mk (fun s hs => ?_) (fun a ha => ?_) (fun o ho => ?_) (fun o ho => ?_)
    · obtain rfl : s = spOpen := by cases h : bit n 3 <;> simp [tyOf, Ty.nums, h] at hs; exact hs
      exact spOpen_ok
    · obtain rfl : a = arOpen := by cases h : bit n 5 <;> simp [tyOf, Ty.arrays, h] at ha; exact ha
      exact inOk_all
    · obtain rfl : o = obOpen := by cases h : bit n 6 <;> simp [tyOf, Ty.objects, h] at ho; exact ho
      rfl
    · obtain rfl : o = obOpen := by cases h : bit n 6 <;> simp [tyOf, Ty.objects, h] at ho; exact ho
      exact inOk_all

set_option maxHeartbeats 4000000 in
theorem shapeKinds_ok (n : Nat) (hn : n < 256) (t : Ty) (v : Val) : PCall Tryd.prog 4 [vU8 n, vTy t, vVal v] (vBool true) := by
  refine PCall.of_fx TTok mixed Tryd.func4 rfl (by decide) rfl rfl ?_
  conv => whnf
  refine lives_ok.use .nil ?_
  conv => whnf
  refine (ofKinds_ok n hn).use (.refl _) ?_
  conv => whnf
  (refine ⟨by decide +kernel, ?_⟩; conv => whnf)
  refine (rofKinds_ok n hn).useQ (.cons (.of_eq (vInt_wrap (by omega) (by omega) rfl)) .nil) ?_
  conv => whnf
  refine (sameTy_ok (tyKinds n) (tyKinds n)).useQ (.refl _) ?_
  conv => whnf
  refine bsel_true (by simp [tt_iff]) ?_
  conv => whnf
  refine (kinds_ok (tyKinds n)).useQ (.refl _) ?_
  conv => whnf
  refine bsel_false (by
    have e : and8 (n : Int) 127 = ((n % 128 : Nat) : Int) := low_and8 ⟨n, hn⟩
    show (((kinds (tyKinds n) : Nat) : Int) != and8 (n : Int) 127) = false
    rw [e, kinds_tyKinds n hn]; simp) ?_
  conv => whnf
  (refine ⟨by decide +kernel, ?_⟩; conv => whnf)
  refine (small_ok v).useQ (.refl _) ?_
  conv => whnf
  refine bsel_intro (fun h1 => ?_) (fun h1 => ?_)
  · conv => whnf
    refine (vformed_ok v).useQ (.refl _) ?_
    conv => whnf
    refine bsel_intro (fun h2 => ?_) (fun h2 => ?_)
    · have h2 : VOk v := tt_iff.1 (by simpa using h2)
      conv => whnf
      refine (in_ok (tyKinds n) (inOk_kinds n) v h2).useQ (.refl _) ?_
      conv => whnf
      have hb := inT_kinds (n := n) h2
      rcases h2.kinds with k | k | k | k | k | k | k
      · rw [k] at hb ⊢
        conv => whnf
        refine bsel_false (by
          have e : (and8 ((n : Int).fdiv (2 ^ 0)) 1 == 1) = bit n 0 := bit_shr ⟨n, hn⟩ ⟨0, by omega⟩
          show (tt (InT (tyKinds n) v) != (and8 ((n : Int).fdiv (2 ^ 0)) 1 == 1)) = false
          rw [e, tt_congr hb]
          show (tt (bit n 0 = true) != bit n 0) = false
          rw [← tt_eq Iff.rfl]; simp) ?_
        conv => whnf
        (refine ⟨by decide +kernel, ?_⟩; conv => whnf)
        refine (fit_ok t).useQ (.refl _) ?_
        conv => whnf
        refine bsel_intro (fun h3 => ?_) (fun h3 => ?_)
        case' refine_2 =>
          conv => whnf
          exact retB TTok rfl rfl
        conv => whnf
        refine (formed_ok t).useQ (.refl _) ?_
        conv => whnf
        refine bsel_intro (fun h4 => ?_) (fun h4 => ?_)
        case' refine_2 =>
          conv => whnf
          exact retB TTok rfl rfl
        conv => whnf
        refine (kinds_ok t).useQ (.refl _) ?_
        conv => whnf
        refine (rkinds_ok t).useQ (.refl _) ?_
        conv => whnf
        exact retB TTok rfl (by
          show (IntKind.i64.wrap (kinds t : Nat) == ((kinds t : Nat) : Int)) = true
          have := kinds_lt t
          rw [wrap_id (by omega) (by omega)]; simp)
      · rw [k] at hb ⊢
        conv => whnf
        refine bsel_false (by
          have e : (and8 ((n : Int).fdiv (2 ^ 1)) 1 == 1) = bit n 1 := bit_shr ⟨n, hn⟩ ⟨1, by omega⟩
          show (tt (InT (tyKinds n) v) != (and8 ((n : Int).fdiv (2 ^ 1)) 1 == 1)) = false
          rw [e, tt_congr hb]
          show (tt (bit n 1 = true) != bit n 1) = false
          rw [← tt_eq Iff.rfl]; simp) ?_
        conv => whnf
        (refine ⟨by decide +kernel, ?_⟩; conv => whnf)
        refine (fit_ok t).useQ (.refl _) ?_
        conv => whnf
        refine bsel_intro (fun h3 => ?_) (fun h3 => ?_)
        case' refine_2 =>
          conv => whnf
          exact retB TTok rfl rfl
        conv => whnf
        refine (formed_ok t).useQ (.refl _) ?_
        conv => whnf
        refine bsel_intro (fun h4 => ?_) (fun h4 => ?_)
        case' refine_2 =>
          conv => whnf
          exact retB TTok rfl rfl
        conv => whnf
        refine (kinds_ok t).useQ (.refl _) ?_
        conv => whnf
        refine (rkinds_ok t).useQ (.refl _) ?_
        conv => whnf
        exact retB TTok rfl (by
          show (IntKind.i64.wrap (kinds t : Nat) == ((kinds t : Nat) : Int)) = true
          have := kinds_lt t
          rw [wrap_id (by omega) (by omega)]; simp)
      · rw [k] at hb ⊢
        conv => whnf
        refine bsel_false (by
          have e : (and8 ((n : Int).fdiv (2 ^ 2)) 1 == 1) = bit n 2 := bit_shr ⟨n, hn⟩ ⟨2, by omega⟩
          show (tt (InT (tyKinds n) v) != (and8 ((n : Int).fdiv (2 ^ 2)) 1 == 1)) = false
          rw [e, tt_congr hb]
          show (tt (bit n 2 = true) != bit n 2) = false
          rw [← tt_eq Iff.rfl]; simp) ?_
        conv => whnf
        (refine ⟨by decide +kernel, ?_⟩; conv => whnf)
        refine (fit_ok t).useQ (.refl _) ?_
        conv => whnf
        refine bsel_intro (fun h3 => ?_) (fun h3 => ?_)
        case' refine_2 =>
          conv => whnf
          exact retB TTok rfl rfl
        conv => whnf
        refine (formed_ok t).useQ (.refl _) ?_
        conv => whnf
        refine bsel_intro (fun h4 => ?_) (fun h4 => ?_)
        case' refine_2 =>
          conv => whnf
          exact retB TTok rfl rfl
        conv => whnf
        refine (kinds_ok t).useQ (.refl _) ?_
        conv => whnf
        refine (rkinds_ok t).useQ (.refl _) ?_
        conv => whnf
        exact retB TTok rfl (by
          show (IntKind.i64.wrap (kinds t : Nat) == ((kinds t : Nat) : Int)) = true
          have := kinds_lt t
          rw [wrap_id (by omega) (by omega)]; simp)
      · rw [k] at hb ⊢
        conv => whnf
        refine bsel_false (by
          have e : (and8 ((n : Int).fdiv (2 ^ 3)) 1 == 1) = bit n 3 := bit_shr ⟨n, hn⟩ ⟨3, by omega⟩
          show (tt (InT (tyKinds n) v) != (and8 ((n : Int).fdiv (2 ^ 3)) 1 == 1)) = false
          rw [e, tt_congr hb]
          show (tt (bit n 3 = true) != bit n 3) = false
          rw [← tt_eq Iff.rfl]; simp) ?_
        conv => whnf
        (refine ⟨by decide +kernel, ?_⟩; conv => whnf)
        refine (fit_ok t).useQ (.refl _) ?_
        conv => whnf
        refine bsel_intro (fun h3 => ?_) (fun h3 => ?_)
        case' refine_2 =>
          conv => whnf
          exact retB TTok rfl rfl
        conv => whnf
        refine (formed_ok t).useQ (.refl _) ?_
        conv => whnf
        refine bsel_intro (fun h4 => ?_) (fun h4 => ?_)
        case' refine_2 =>
          conv => whnf
          exact retB TTok rfl rfl
        conv => whnf
        refine (kinds_ok t).useQ (.refl _) ?_
        conv => whnf
        refine (rkinds_ok t).useQ (.refl _) ?_
        conv => whnf
        exact retB TTok rfl (by
          show (IntKind.i64.wrap (kinds t : Nat) == ((kinds t : Nat) : Int)) = true
          have := kinds_lt t
          rw [wrap_id (by omega) (by omega)]; simp)
      · rw [k] at hb ⊢
        conv => whnf
        refine bsel_false (by
          have e : (and8 ((n : Int).fdiv (2 ^ 4)) 1 == 1) = bit n 4 := bit_shr ⟨n, hn⟩ ⟨4, by omega⟩
          show (tt (InT (tyKinds n) v) != (and8 ((n : Int).fdiv (2 ^ 4)) 1 == 1)) = false
          rw [e, tt_congr hb]
          show (tt (bit n 4 = true) != bit n 4) = false
          rw [← tt_eq Iff.rfl]; simp) ?_
        conv => whnf
        (refine ⟨by decide +kernel, ?_⟩; conv => whnf)
        refine (fit_ok t).useQ (.refl _) ?_
        conv => whnf
        refine bsel_intro (fun h3 => ?_) (fun h3 => ?_)
        case' refine_2 =>
          conv => whnf
          exact retB TTok rfl rfl
        conv => whnf
        refine (formed_ok t).useQ (.refl _) ?_
        conv => whnf
        refine bsel_intro (fun h4 => ?_) (fun h4 => ?_)
        case' refine_2 =>
          conv => whnf
          exact retB TTok rfl rfl
        conv => whnf
        refine (kinds_ok t).useQ (.refl _) ?_
        conv => whnf
        refine (rkinds_ok t).useQ (.refl _) ?_
        conv => whnf
        exact retB TTok rfl (by
          show (IntKind.i64.wrap (kinds t : Nat) == ((kinds t : Nat) : Int)) = true
          have := kinds_lt t
          rw [wrap_id (by omega) (by omega)]; simp)
      · rw [k] at hb ⊢
        conv => whnf
        refine bsel_false (by
          have e : (and8 ((n : Int).fdiv (2 ^ 5)) 1 == 1) = bit n 5 := bit_shr ⟨n, hn⟩ ⟨5, by omega⟩
          show (tt (InT (tyKinds n) v) != (and8 ((n : Int).fdiv (2 ^ 5)) 1 == 1)) = false
          rw [e, tt_congr hb]
          show (tt (bit n 5 = true) != bit n 5) = false
          rw [← tt_eq Iff.rfl]; simp) ?_
        conv => whnf
        (refine ⟨by decide +kernel, ?_⟩; conv => whnf)
        refine (fit_ok t).useQ (.refl _) ?_
        conv => whnf
        refine bsel_intro (fun h3 => ?_) (fun h3 => ?_)
        case' refine_2 =>
          conv => whnf
          exact retB TTok rfl rfl
        conv => whnf
        refine (formed_ok t).useQ (.refl _) ?_
        conv => whnf
        refine bsel_intro (fun h4 => ?_) (fun h4 => ?_)
        case' refine_2 =>
          conv => whnf
          exact retB TTok rfl rfl
        conv => whnf
        refine (kinds_ok t).useQ (.refl _) ?_
        conv => whnf
        refine (rkinds_ok t).useQ (.refl _) ?_
        conv => whnf
        exact retB TTok rfl (by
          show (IntKind.i64.wrap (kinds t : Nat) == ((kinds t : Nat) : Int)) = true
          have := kinds_lt t
          rw [wrap_id (by omega) (by omega)]; simp)
      · rw [k] at hb ⊢
        conv => whnf
        refine bsel_false (by
          have e : (and8 ((n : Int).fdiv (2 ^ 6)) 1 == 1) = bit n 6 := bit_shr ⟨n, hn⟩ ⟨6, by omega⟩
          show (tt (InT (tyKinds n) v) != (and8 ((n : Int).fdiv (2 ^ 6)) 1 == 1)) = false
          rw [e, tt_congr hb]
          show (tt (bit n 6 = true) != bit n 6) = false
          rw [← tt_eq Iff.rfl]; simp) ?_
        conv => whnf
        (refine ⟨by decide +kernel, ?_⟩; conv => whnf)
        refine (fit_ok t).useQ (.refl _) ?_
        conv => whnf
        refine bsel_intro (fun h3 => ?_) (fun h3 => ?_)
        case' refine_2 =>
          conv => whnf
          exact retB TTok rfl rfl
        conv => whnf
        refine (formed_ok t).useQ (.refl _) ?_
        conv => whnf
        refine bsel_intro (fun h4 => ?_) (fun h4 => ?_)
        case' refine_2 =>
          conv => whnf
          exact retB TTok rfl rfl
        conv => whnf
        refine (kinds_ok t).useQ (.refl _) ?_
        conv => whnf
        refine (rkinds_ok t).useQ (.refl _) ?_
        conv => whnf
        exact retB TTok rfl (by
          show (IntKind.i64.wrap (kinds t : Nat) == ((kinds t : Nat) : Int)) = true
          have := kinds_lt t
          rw [wrap_id (by omega) (by omega)]; simp)
    · conv => whnf
      (refine ⟨by decide +kernel, ?_⟩; conv => whnf)
      refine (fit_ok t).useQ (.refl _) ?_
      conv => whnf
      refine bsel_intro (fun h3 => ?_) (fun h3 => ?_)
      case' refine_2 =>
        conv => whnf
        exact retB TTok rfl rfl
      conv => whnf
      refine (formed_ok t).useQ (.refl _) ?_
      conv => whnf
      refine bsel_intro (fun h4 => ?_) (fun h4 => ?_)
      case' refine_2 =>
        conv => whnf
        exact retB TTok rfl rfl
      conv => whnf
      refine (kinds_ok t).useQ (.refl _) ?_
      conv => whnf
      refine (rkinds_ok t).useQ (.refl _) ?_
      conv => whnf
      exact retB TTok rfl (by
        show (IntKind.i64.wrap (kinds t : Nat) == ((kinds t : Nat) : Int)) = true
        have := kinds_lt t
        rw [wrap_id (by omega) (by omega)]; simp)
  · conv => whnf
    (refine ⟨by decide +kernel, ?_⟩; conv => whnf)
    refine (fit_ok t).useQ (.refl _) ?_
    conv => whnf
    refine bsel_intro (fun h3 => ?_) (fun h3 => ?_)
    case' refine_2 =>
      conv => whnf
      exact retB TTok rfl rfl
    conv => whnf
    refine (formed_ok t).useQ (.refl _) ?_
    conv => whnf
    refine bsel_intro (fun h4 => ?_) (fun h4 => ?_)
    case' refine_2 =>
      conv => whnf
      exact retB TTok rfl rfl
    conv => whnf
    refine (kinds_ok t).useQ (.refl _) ?_
    conv => whnf
    refine (rkinds_ok t).useQ (.refl _) ?_
    conv => whnf
    exact retB TTok rfl (by
      show (IntKind.i64.wrap (kinds t : Nat) == ((kinds t : Nat) : Int)) = true
      have := kinds_lt t
      rw [wrap_id (by omega) (by omega)]; simp)
end Go.Ab
