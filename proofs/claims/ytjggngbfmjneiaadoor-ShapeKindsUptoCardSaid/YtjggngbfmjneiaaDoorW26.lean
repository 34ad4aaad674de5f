import Derived.Test.YtjggngbfmjneiaaDoorW25
import Derived.Test.YtjggngbfmjneiaaDoorW24
set_option linter.unusedVariables false
set_option linter.unusedSimpArgs false
set_option maxRecDepth 4000
namespace Go.Ab
open Go.Proofs

theorem entAr1 : EntV (.xs [[.lit (.bool true), .lit (.bool false), .lit (.bool false), .lit (.bool false), .lit (.slice none 0 0), .lit (.bool false), .lit (.slice none 0 0), .lit (.slice none 0 0), .lit (.slice none 0 0), .lit (.int .i64 0), .lit (.int .i64 (-1))]]) (vArs [arOpen]) := by
  have e : vArs [arOpen] = .d (.sl [arOpen.lay]) := by simp [vArs, Ar.cells_eq]
  rw [e]; exact .nz_xs rfl
theorem entOb1 : EntV (.xs [[.lit (.slice none 0 0), .lit (.slice none 0 0), .lit (.slice none 0 0), .lit (.bool true), .lit (.bool false), .lit (.bool false), .lit (.bool false), .lit (.slice none 0 0), .lit (.bool false), .lit (.slice none 0 0), .lit (.slice none 0 0), .lit (.slice none 0 0)]]) (vObs [obOpen]) := by
  have e : vObs [obOpen] = .d (.sl [obOpen.lay]) := by simp [vObs, Ob.cells_eq]
  rw [e]; exact .nz_xs rfl

set_option maxHeartbeats 4000000 in
theorem rofKinds_ok (n : Nat) (hn : n < 256) : PCall Tryd.prog 14 [vInt n] (vTy (tyKinds n)) := by
  have e0 := low_andI ⟨n, hn⟩
  have eb : ∀ k, k < 7 → (andI ((n % 128 : Nat) : Int) ((2 ^ k : Nat) : Int) != 0) = bit n k := fun k hk => (bit_andI ⟨n % 128, by omega⟩ ⟨k, hk⟩).trans (bit_low ⟨n, hn⟩ ⟨k, hk⟩)
  simp only at e0
  have H0 := eb 0 (by omega)
  have H1 := eb 1 (by omega)
  have H2 := eb 2 (by omega)
  have H3 := eb 3 (by omega)
  have H4 := eb 4 (by omega)
  have H5 := eb 5 (by omega)
  have H6 := eb 6 (by omega)
  rw [← e0] at H0 H1 H2 H3 H4 H5 H6
  refine PCall.of_fx TTok mixed Tryd.func14 rfl (by decide) rfl rfl ?_
  conv => whnf
  refine bsel_intro (fun h1 => ?_) (fun h1 => ?_)
  · have h1 : n % 128 = 127 := by have h2 : (andI (n : Int) 127 == 127) = true := h1; rw [e0] at h2; simp at h2; omega
    rw [tyKinds, if_pos h1]
    conv => whnf
    exact retP TTok rfl (entTy .nil_sl .nil_sl .nil_sl .nil_sl) rfl
  have h1 : n % 128 ≠ 127 := by have h2 : (andI (n : Int) 127 == 127) = false := h1; rw [e0] at h2; simp at h2; omega
  rw [tyKinds, if_neg h1]
  conv => whnf
  refine bsel_intro (fun h3 => ?_) (fun h3 => ?_)
  · have H3' : bit n 3 = true := H3.symm.trans h3
    conv => whnf
    refine bsel_intro (fun h5 => ?_) (fun h5 => ?_)
    · have H5' : bit n 5 = true := H5.symm.trans h5
      conv => whnf
      refine bsel_intro (fun h6 => ?_) (fun h6 => ?_)
      · have H6' : bit n 6 = true := H6.symm.trans h6
        conv => whnf
        exact retP TTok rfl (.trans (entTy (a := false) (n := andI (andI (n : Int) 127) 1 != 0) (f := andI (andI (n : Int) 127) 2 != 0) (t := andI (andI (n : Int) 127) 4 != 0) (at' := andI (andI (n : Int) 127) 16 != 0) (nums := [spOpen]) (texts := []) (arrays := [arOpen]) (objects := [obOpen]) entSp0 .nil_sl entAr1 entOb1) (.of_eq (by rw [tyOf, ← H0, ← H1, ← H2, ← H4, H3', H5', H6']; rfl))) rfl
      · have H6' : bit n 6 = false := H6.symm.trans h6
        conv => whnf
        exact retP TTok rfl (.trans (entTy (a := false) (n := andI (andI (n : Int) 127) 1 != 0) (f := andI (andI (n : Int) 127) 2 != 0) (t := andI (andI (n : Int) 127) 4 != 0) (at' := andI (andI (n : Int) 127) 16 != 0) (nums := [spOpen]) (texts := []) (arrays := [arOpen]) (objects := []) entSp0 .nil_sl entAr1 .nil_sl) (.of_eq (by rw [tyOf, ← H0, ← H1, ← H2, ← H4, H3', H5', H6']; rfl))) rfl
    · have H5' : bit n 5 = false := H5.symm.trans h5
      conv => whnf
      refine bsel_intro (fun h6 => ?_) (fun h6 => ?_)
      · have H6' : bit n 6 = true := H6.symm.trans h6
        conv => whnf
        exact retP TTok rfl (.trans (entTy (a := false) (n := andI (andI (n : Int) 127) 1 != 0) (f := andI (andI (n : Int) 127) 2 != 0) (t := andI (andI (n : Int) 127) 4 != 0) (at' := andI (andI (n : Int) 127) 16 != 0) (nums := [spOpen]) (texts := []) (arrays := []) (objects := [obOpen]) entSp0 .nil_sl .nil_sl entOb1) (.of_eq (by rw [tyOf, ← H0, ← H1, ← H2, ← H4, H3', H5', H6']; rfl))) rfl
      · have H6' : bit n 6 = false := H6.symm.trans h6
        conv => whnf
        exact retP TTok rfl (.trans (entTy (a := false) (n := andI (andI (n : Int) 127) 1 != 0) (f := andI (andI (n : Int) 127) 2 != 0) (t := andI (andI (n : Int) 127) 4 != 0) (at' := andI (andI (n : Int) 127) 16 != 0) (nums := [spOpen]) (texts := []) (arrays := []) (objects := []) entSp0 .nil_sl .nil_sl .nil_sl) (.of_eq (by rw [tyOf, ← H0, ← H1, ← H2, ← H4, H3', H5', H6']; rfl))) rfl
  · have H3' : bit n 3 = false := H3.symm.trans h3
    conv => whnf
    refine bsel_intro (fun h5 => ?_) (fun h5 => ?_)
    · have H5' : bit n 5 = true := H5.symm.trans h5
      conv => whnf
      refine bsel_intro (fun h6 => ?_) (fun h6 => ?_)
      · have H6' : bit n 6 = true := H6.symm.trans h6
        conv => whnf
        exact retP TTok rfl (.trans (entTy (a := false) (n := andI (andI (n : Int) 127) 1 != 0) (f := andI (andI (n : Int) 127) 2 != 0) (t := andI (andI (n : Int) 127) 4 != 0) (at' := andI (andI (n : Int) 127) 16 != 0) (nums := []) (texts := []) (arrays := [arOpen]) (objects := [obOpen]) .nil_sl .nil_sl entAr1 entOb1) (.of_eq (by rw [tyOf, ← H0, ← H1, ← H2, ← H4, H3', H5', H6']; rfl))) rfl
      · have H6' : bit n 6 = false := H6.symm.trans h6
        conv => whnf
        exact retP TTok rfl (.trans (entTy (a := false) (n := andI (andI (n : Int) 127) 1 != 0) (f := andI (andI (n : Int) 127) 2 != 0) (t := andI (andI (n : Int) 127) 4 != 0) (at' := andI (andI (n : Int) 127) 16 != 0) (nums := []) (texts := []) (arrays := [arOpen]) (objects := []) .nil_sl .nil_sl entAr1 .nil_sl) (.of_eq (by rw [tyOf, ← H0, ← H1, ← H2, ← H4, H3', H5', H6']; rfl))) rfl
    · have H5' : bit n 5 = false := H5.symm.trans h5
      conv => whnf
      refine bsel_intro (fun h6 => ?_) (fun h6 => ?_)
      · have H6' : bit n 6 = true := H6.symm.trans h6
        conv => whnf
        exact retP TTok rfl (.trans (entTy (a := false) (n := andI (andI (n : Int) 127) 1 != 0) (f := andI (andI (n : Int) 127) 2 != 0) (t := andI (andI (n : Int) 127) 4 != 0) (at' := andI (andI (n : Int) 127) 16 != 0) (nums := []) (texts := []) (arrays := []) (objects := [obOpen]) .nil_sl .nil_sl .nil_sl entOb1) (.of_eq (by rw [tyOf, ← H0, ← H1, ← H2, ← H4, H3', H5', H6']; rfl))) rfl
      · have H6' : bit n 6 = false := H6.symm.trans h6
        conv => whnf
        exact retP TTok rfl (.trans (entTy (a := false) (n := andI (andI (n : Int) 127) 1 != 0) (f := andI (andI (n : Int) 127) 2 != 0) (t := andI (andI (n : Int) 127) 4 != 0) (at' := andI (andI (n : Int) 127) 16 != 0) (nums := []) (texts := []) (arrays := []) (objects := []) .nil_sl .nil_sl .nil_sl .nil_sl) (.of_eq (by rw [tyOf, ← H0, ← H1, ← H2, ← H4, H3', H5', H6']; rfl))) rfl

theorem small_ok (v : Val) : PCall Tryd.prog 16 [vVal v] (vBool (decide (v.pt 20000 ≤ 20000))) := by
  refine PCall.of_fx TTok mixed Tryd.func16 rfl (by decide) rfl rfl ?_
  conv => whnf
  refine (fit1_ok v).use (.cons ?_ .nil) ?_
  · have e : vVals [v] = .d (.sl [v.lay]) := by simp [vVals, Val.cells_eq]
    rw [e]; exact .xs_sl _
  conv => whnf
  exact retB TTok rfl rfl

def gt0 (n : Nat) : Bool := decide ((n : Int) > 0)
theorem gt0_eq (n : Nat) : gt0 n = decide (0 < n) := by simp [gt0]
set_option maxHeartbeats 16000000 in
theorem rkinds_ok (t : Ty) : PCall Tryd.prog 19 [vTy t] (vInt (kinds t)) := by
  obtain ⟨al, b0, b1, b2, nums, b4, texts, arrays, objects⟩ := t
  have e := orI_kN b0 b1 b2 (gt0 (nums.map Sp.cells).length) (b4 || gt0 (texts.map strC).length) (gt0 (arrays.map Ar.cells).length) (gt0 (objects.map Ob.cells).length)
  have e2 : kinds (.mk al b0 b1 b2 nums b4 texts arrays objects) = if al = true then 127 else kN b0 b1 b2 (gt0 (nums.map Sp.cells).length) (b4 || gt0 (texts.map strC).length) (gt0 (arrays.map Ar.cells).length) (gt0 (objects.map Ob.cells).length) := by
    simp only [gt0_eq, List.length_map]; rfl
  refine PCall.of_fx TTok mixed Tryd.func19 rfl (by decide) rfl rfl ?_
  cases al with
  | true =>
    conv => whnf
    exact retI TTok rfl (by rw [e2]; rfl)
  | false =>
  rw [e2, if_neg (by decide), ← e]
  clear e e2
  cases b4 with
  | true =>
    cases b0 <;> cases b1 <;> cases b2
    all_goals
      conv => whnf
      refine bsel_intro (fun h3 => ?_) (fun h3 => ?_)
      all_goals
        conv => whnf
        refine bsel_intro (fun h5 => ?_) (fun h5 => ?_)
        all_goals
          conv => whnf
          refine bsel_intro (fun h6 => ?_) (fun h6 => ?_)
          all_goals
            conv => whnf
            refine retI TTok rfl ?_
            rw [show gt0 (nums.map Sp.cells).length = _ from h3, show gt0 (arrays.map Ar.cells).length = _ from h5, show gt0 (objects.map Ob.cells).length = _ from h6, Bool.true_or]
            decide +kernel
  | false =>
    cases b0 <;> cases b1 <;> cases b2
    all_goals
      conv => whnf
      refine bsel_intro (fun h3 => ?_) (fun h3 => ?_)
      all_goals
        conv => whnf
        refine bsel_intro (fun h4 => ?_) (fun h4 => ?_)
        all_goals
          conv => whnf
          refine bsel_intro (fun h5 => ?_) (fun h5 => ?_)
          all_goals
            conv => whnf
            refine bsel_intro (fun h6 => ?_) (fun h6 => ?_)
            all_goals
              conv => whnf
              refine retI TTok rfl ?_
              rw [show gt0 (nums.map Sp.cells).length = _ from h3, show gt0 (texts.map strC).length = _ from h4, show gt0 (arrays.map Ar.cells).length = _ from h5, show gt0 (objects.map Ob.cells).length = _ from h6]
              decide +kernel
end Go.Ab
