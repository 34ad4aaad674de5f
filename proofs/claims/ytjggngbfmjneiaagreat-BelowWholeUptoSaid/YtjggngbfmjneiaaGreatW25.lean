import Derived.Test.YtjggngbfmjneiaaGreatWE
import Derived.Test.YtjggngbfmjneiaaGreatPX
set_option linter.unusedVariables false
set_option linter.unusedSimpArgs false
set_option maxRecDepth 4000
namespace Go.Ab
open Go.Proofs

theorem has1_ok (n : Nat) (hn : n < 256) (k : Nat) (hk : k < 7) (X : List O) (hX : hpLt (1 + X.length) (.row 5 [vU8 n] :: X) = true) : HCall Tryz.prog 102 [vInt k, .bx 0 0] (.row 5 [vU8 n] :: X) (vBool (bit n k)) := by
  refine HCall.of_fx TTok mixed Tryz.func102 rfl (by decide) rfl ?_
  conv => whnf
  refine retH (extra := []) TTok rfl (List.append_nil _).symm (by rw [List.length_cons, Nat.add_comm]; exact hX) (.of_eq ?_) rfl
  have e := bit_shr ⟨n, hn⟩ ⟨k, by omega⟩
  have e2 : min ((k : Int)).toNat IntKind.u8.bits = k := by simp [IntKind.bits]; omega
  show V.d (D.lit (Value.bool (and8 (((n : Nat) : Int).fdiv (2 ^ min ((k : Int)).toNat IntKind.u8.bits)) 1 == 1))) = vBool (bit n k)
  rw [e2]
  exact congrArg vBool e

theorem entAr0 : EntV (.xs [arOpen.lay]) (vArs [arOpen]) := by
  have e : vArs [arOpen] = .d (.sl [arOpen.lay]) := by simp [vArs, Ar.cells_eq]
  rw [e]; exact .xs_sl _
theorem entOb0 : EntV (.xs [[.lit (.slice none 0 0), .lit (.slice none 0 0), .lit (.slice none 0 0), .lit (.bool true), .lit (.bool false), .lit (.bool false), .lit (.bool false), .sl [], .lit (.bool false), .sl [], .sl [], .sl []]]) (vObs [obOpen]) := by
  have e : vObs [obOpen] = .d (.sl [obOpen.lay]) := by simp [vObs, Ob.cells_eq]
  rw [e]; exact .nz_xs rfl
theorem entSp0 : EntV (.xs [[.lit (.string ⟨#[]⟩), .lit (.string ⟨#[]⟩)]]) (vSps [spOpen]) := .xs_sl _
set_option maxHeartbeats 4000000 in
theorem ofKinds_ok (n : Nat) (hn : n < 256) : PCall Tryz.prog 79 [vU8 n] (vTy (tyKinds n)) := by
  refine PCall.of_fx TTok mixed Tryz.func79 rfl (by decide) rfl rfl ?_
  conv => whnf
  refine bsel_intro (fun h1 => ?_) (fun h1 => ?_)
  · have h1 : n % 128 = 127 := by have e := all_and8 ⟨n, hn⟩; exact of_decide_eq_true (e.symm.trans h1)
    rw [tyKinds, if_pos h1]
    conv => whnf
    refine sEvery_ok.use .nil ?_
    conv => whnf
    exact retP TTok rfl (.refl _) rfl
  have h1 : n % 128 ≠ 127 := by have e := all_and8 ⟨n, hn⟩; exact of_decide_eq_false (e.symm.trans h1)
  rw [tyKinds, if_neg h1]
  have H0 := has1_ok n hn 0 (by omega)
  have H1 := has1_ok n hn 1 (by omega)
  have H2 := has1_ok n hn 2 (by omega)
  have H3 := has1_ok n hn 3 (by omega)
  have H4 := has1_ok n hn 4 (by omega)
  have H5 := has1_ok n hn 5 (by omega)
  have H6 := has1_ok n hn 6 (by omega)
  generalize bit n 0 = b0 at H0 ⊢
  generalize bit n 1 = b1 at H1 ⊢
  generalize bit n 2 = b2 at H2 ⊢
  generalize bit n 3 = b3 at H3 ⊢
  generalize bit n 4 = b4 at H4 ⊢
  generalize bit n 5 = b5 at H5 ⊢
  generalize bit n 6 = b6 at H6 ⊢
  conv => whnf
  refine (H0 _ rfl).use (.refl _) ?_
  conv => whnf
  refine (H1 _ rfl).use (.refl _) ?_
  conv => whnf
  refine (H2 _ rfl).use (.refl _) ?_
  conv => whnf
  refine (H4 _ rfl).use (.refl _) ?_
  conv => whnf
  refine (H3 _ rfl).use (.refl _) ?_
  conv => whnf
  cases b3 with
  | true =>
    conv => whnf
    refine (H5 _ rfl).use (.refl _) ?_
    conv => whnf
    cases b5 with
    | true =>
      conv => whnf
      refine sEvery_ok.use .nil ?_
      conv => whnf
      refine (H6 _ rfl).use (.refl _) ?_
      conv => whnf
      cases b6 with
      | true =>
        conv => whnf
        refine sEvery_ok.use .nil ?_
        conv => whnf
        exact retP TTok rfl (entTy entSp0 .nil_sl entAr0 entOb0) rfl
      | false =>
        conv => whnf
        exact retP TTok rfl (entTy entSp0 .nil_sl entAr0 .nil_sl) rfl
    | false =>
      conv => whnf
      refine (H6 _ rfl).use (.refl _) ?_
      conv => whnf
      cases b6 with
      | true =>
        conv => whnf
        refine sEvery_ok.use .nil ?_
        conv => whnf
        exact retP TTok rfl (entTy entSp0 .nil_sl .nil_sl entOb0) rfl
      | false =>
        conv => whnf
        exact retP TTok rfl (entTy entSp0 .nil_sl .nil_sl .nil_sl) rfl
  | false =>
    conv => whnf
    refine (H5 _ rfl).use (.refl _) ?_
    conv => whnf
    cases b5 with
    | true =>
      conv => whnf
      refine sEvery_ok.use .nil ?_
      conv => whnf
      refine (H6 _ rfl).use (.refl _) ?_
      conv => whnf
      cases b6 with
      | true =>
        conv => whnf
        refine sEvery_ok.use .nil ?_
        conv => whnf
        exact retP TTok rfl (entTy .nil_sl .nil_sl entAr0 entOb0) rfl
      | false =>
        conv => whnf
        exact retP TTok rfl (entTy .nil_sl .nil_sl entAr0 .nil_sl) rfl
    | false =>
      conv => whnf
      refine (H6 _ rfl).use (.refl _) ?_
      conv => whnf
      cases b6 with
      | true =>
        conv => whnf
        refine sEvery_ok.use .nil ?_
        conv => whnf
        exact retP TTok rfl (entTy .nil_sl .nil_sl .nil_sl entOb0) rfl
      | false =>
        conv => whnf
        exact retP TTok rfl (entTy .nil_sl .nil_sl .nil_sl .nil_sl) rfl
end Go.Ab
