import Derived.Test.YtjggngbfmjneiaaW2
set_option linter.unusedVariables false
set_option linter.unusedSimpArgs false
set_option maxRecDepth 4000
namespace Go.Ab
open Go.Proofs

theorem number_ok (s : ByteArray) : PCall Try.prog 43 [vStr s] (vBool (tt (NumOk s))) := by
  refine PCall.bd Try.func43 rfl (by decide) rfl rfl (fun hbd => ?_)
  have hs : s.size ≤ 4611686018427387904 := D.Bd.str (hbd 0 (by simp))
  refine PCall.of_fx TTok mixed Try.func43 rfl (by decide) rfl rfl ?_
  conv => whnf
  have hdl := digits_le s
  refine bsel_intro (fun h0 => ?_) (fun h0 => ?_)
  · have h0 : 0 < s.size := by simpa using h0
    conv => whnf
    refine idxB rfl h0 ?_
    conv => whnf
    refine bsel_intro (fun h1 => ?_) (fun h1 => ?_)
    · have h1 : bt s 0 = 45 := eqN h1
      have ed : digits s = s.extract 1 s.size := if_pos ⟨h0, h1⟩
      conv => whnf
      refine chk_intro (by simp; omega) ?_
      conv => whnf
      refine ⟨SExec.loop_p (digits s).size (fun k => ∀ j, j < k → IsDig (bt (digits s) j)) (fun k => ⟨44, [(4, vInt k), (3, vStr (digits s)), (0, vStr s)], []⟩) upto_zero
        (fun k => Nat.le_refl _) (St.subD_of rfl [] rfl rfl (.cons (.refl _) rfl (.cons (.of_eq (by rw [ed]; rfl)) rfl (.cons (.refl _) rfl .nil)))) ?_⟩
      clear ed
      intro k hk hI
      refine fx_sound TTok mixed ?_
      conv => whnf
      refine bsel_intro (fun hlt => ?_) (fun hlt => ?_)
      · have hlt : k < (digits s).size := ltN hlt
        conv => whnf
        refine idxB rfl hlt ?_
        conv => whnf
        refine bsel_intro (fun h1 => ?_) (fun h1 => ?_)
        · have h1 := geN (k := 48) (beqF h1)
          conv => whnf
          refine idxB rfl hlt ?_
          conv => whnf
          refine bsel_intro (fun h2 => ?_) (fun h2 => ?_)
          · have h2 := ltN (n := 57) h2
            conv => whnf
            exact retB TTok rfl (tt_f fun t => by have := (t.digs k hlt).2; omega)
          · have h2 := geN (n := 57) h2
            conv => whnf
            exact ⟨⟨hlt, upto_succ hI ⟨h1, h2⟩⟩, St.subD_of rfl _ rfl rfl (.cons (.of_eq (vInt_succ k (by omega))) rfl (.cons (.refl _) rfl (.cons (.refl _) rfl .nil)))⟩
        · have h1 := ltN (k := 48) (beqF h1)
          conv => whnf
          exact retB TTok rfl (tt_f fun t => by have := (t.digs k hlt).1; omega)
      · have hge : (digits s).size ≤ k := geN hlt
        obtain rfl : k = (digits s).size := by omega
        conv => whnf
        refine bsel_intro (fun h3 => ?_) (fun h3 => ?_)
        · have h3 : (digits s).size ≠ 0 := neN (beqF h3)
          conv => whnf
          refine idxB (k := 0) rfl (by omega) ?_
          conv => whnf
          refine bsel_intro (fun h4 => ?_) (fun h4 => ?_)
          · have h4 : bt (digits s) 0 = 48 := eqN (beqT h4)
            conv => whnf
            refine bsel_intro (fun h5 => ?_) (fun h5 => ?_)
            · have h5 : s ≠ zeroS := strEq_not.1 (by simpa [zeroS] using h5)
              conv => whnf
              exact retB TTok rfl (tt_f fun t => h5 (t.zero h4))
            · have h5 : s = zeroS := strEq_iff.1 (by simpa [zeroS] using h5)
              conv => whnf
              exact retB TTok rfl (tt_t ⟨hI, by omega, fun _ => h5⟩)
          · have h4 : bt (digits s) 0 ≠ 48 := neN (beqT h4)
            conv => whnf
            exact retB TTok rfl (tt_t ⟨hI, by omega, fun h => absurd h h4⟩)
        · have h3 : (digits s).size = 0 := eqN (beqF h3)
          conv => whnf
          exact retB TTok rfl (tt_f fun t => by have := t.some; omega)
    · have h1 : bt s 0 ≠ 45 := neN h1
      have ed : digits s = s := if_neg (fun k => h1 k.2)
      conv => whnf
      refine ⟨SExec.loop_p (digits s).size (fun k => ∀ j, j < k → IsDig (bt (digits s) j)) (fun k => ⟨44, [(4, vInt k), (3, vStr (digits s)), (0, vStr s)], []⟩) upto_zero
        (fun k => Nat.le_refl _) (St.subD_of rfl [] rfl rfl (.cons (.refl _) rfl (.cons (.of_eq (by rw [ed]; rfl)) rfl (.cons (.refl _) rfl .nil)))) ?_⟩
      clear ed
      intro k hk hI
      refine fx_sound TTok mixed ?_
      conv => whnf
      refine bsel_intro (fun hlt => ?_) (fun hlt => ?_)
      · have hlt : k < (digits s).size := ltN hlt
        conv => whnf
        refine idxB rfl hlt ?_
        conv => whnf
        refine bsel_intro (fun h1 => ?_) (fun h1 => ?_)
        · have h1 := geN (k := 48) (beqF h1)
          conv => whnf
          refine idxB rfl hlt ?_
          conv => whnf
          refine bsel_intro (fun h2 => ?_) (fun h2 => ?_)
          · have h2 := ltN (n := 57) h2
            conv => whnf
            exact retB TTok rfl (tt_f fun t => by have := (t.digs k hlt).2; omega)
          · have h2 := geN (n := 57) h2
            conv => whnf
            exact ⟨⟨hlt, upto_succ hI ⟨h1, h2⟩⟩, St.subD_of rfl _ rfl rfl (.cons (.of_eq (vInt_succ k (by omega))) rfl (.cons (.refl _) rfl (.cons (.refl _) rfl .nil)))⟩
        · have h1 := ltN (k := 48) (beqF h1)
          conv => whnf
          exact retB TTok rfl (tt_f fun t => by have := (t.digs k hlt).1; omega)
      · have hge : (digits s).size ≤ k := geN hlt
        obtain rfl : k = (digits s).size := by omega
        conv => whnf
        refine bsel_intro (fun h3 => ?_) (fun h3 => ?_)
        · have h3 : (digits s).size ≠ 0 := neN (beqF h3)
          conv => whnf
          refine idxB (k := 0) rfl (by omega) ?_
          conv => whnf
          refine bsel_intro (fun h4 => ?_) (fun h4 => ?_)
          · have h4 : bt (digits s) 0 = 48 := eqN (beqT h4)
            conv => whnf
            refine bsel_intro (fun h5 => ?_) (fun h5 => ?_)
            · have h5 : s ≠ zeroS := strEq_not.1 (by simpa [zeroS] using h5)
              conv => whnf
              exact retB TTok rfl (tt_f fun t => h5 (t.zero h4))
            · have h5 : s = zeroS := strEq_iff.1 (by simpa [zeroS] using h5)
              conv => whnf
              exact retB TTok rfl (tt_t ⟨hI, by omega, fun _ => h5⟩)
          · have h4 : bt (digits s) 0 ≠ 48 := neN (beqT h4)
            conv => whnf
            exact retB TTok rfl (tt_t ⟨hI, by omega, fun h => absurd h h4⟩)
        · have h3 : (digits s).size = 0 := eqN (beqF h3)
          conv => whnf
          exact retB TTok rfl (tt_f fun t => by have := t.some; omega)
  · have h0 : s.size = 0 := by simpa using h0
    have ed : digits s = s := if_neg (fun k => by omega)
    conv => whnf
    refine ⟨SExec.loop_p (digits s).size (fun k => ∀ j, j < k → IsDig (bt (digits s) j)) (fun k => ⟨44, [(4, vInt k), (3, vStr (digits s)), (0, vStr s)], []⟩) upto_zero
      (fun k => Nat.le_refl _) (St.subD_of rfl [] rfl rfl (.cons (.refl _) rfl (.cons (.of_eq (by rw [ed]; rfl)) rfl (.cons (.refl _) rfl .nil)))) ?_⟩
    clear ed
    intro k hk hI
    refine fx_sound TTok mixed ?_
    conv => whnf
    refine bsel_intro (fun hlt => ?_) (fun hlt => ?_)
    · have hlt : k < (digits s).size := ltN hlt
      conv => whnf
      refine idxB rfl hlt ?_
      conv => whnf
      refine bsel_intro (fun h1 => ?_) (fun h1 => ?_)
      · have h1 := geN (k := 48) (beqF h1)
        conv => whnf
        refine idxB rfl hlt ?_
        conv => whnf
        refine bsel_intro (fun h2 => ?_) (fun h2 => ?_)
        · have h2 := ltN (n := 57) h2
          conv => whnf
          exact retB TTok rfl (tt_f fun t => by have := (t.digs k hlt).2; omega)
        · have h2 := geN (n := 57) h2
          conv => whnf
          exact ⟨⟨hlt, upto_succ hI ⟨h1, h2⟩⟩, St.subD_of rfl _ rfl rfl (.cons (.of_eq (vInt_succ k (by omega))) rfl (.cons (.refl _) rfl (.cons (.refl _) rfl .nil)))⟩
      · have h1 := ltN (k := 48) (beqF h1)
        conv => whnf
        exact retB TTok rfl (tt_f fun t => by have := (t.digs k hlt).1; omega)
    · have hge : (digits s).size ≤ k := geN hlt
      obtain rfl : k = (digits s).size := by omega
      conv => whnf
      refine bsel_intro (fun h3 => ?_) (fun h3 => ?_)
      · have h3 : (digits s).size ≠ 0 := neN (beqF h3)
        conv => whnf
        refine idxB (k := 0) rfl (by omega) ?_
        conv => whnf
        refine bsel_intro (fun h4 => ?_) (fun h4 => ?_)
        · have h4 : bt (digits s) 0 = 48 := eqN (beqT h4)
          conv => whnf
          refine bsel_intro (fun h5 => ?_) (fun h5 => ?_)
          · have h5 : s ≠ zeroS := strEq_not.1 (by simpa [zeroS] using h5)
            conv => whnf
            exact retB TTok rfl (tt_f fun t => h5 (t.zero h4))
          · have h5 : s = zeroS := strEq_iff.1 (by simpa [zeroS] using h5)
            conv => whnf
            exact retB TTok rfl (tt_t ⟨hI, by omega, fun _ => h5⟩)
        · have h4 : bt (digits s) 0 ≠ 48 := neN (beqT h4)
          conv => whnf
          exact retB TTok rfl (tt_t ⟨hI, by omega, fun h => absurd h h4⟩)
      · have h3 : (digits s).size = 0 := eqN (beqF h3)
        conv => whnf
        exact retB TTok rfl (tt_f fun t => by have := t.some; omega)
end Go.Ab
