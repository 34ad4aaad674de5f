import Derived.Test.YtjggngbfmjneiaaGreatW12
set_option linter.unusedVariables false
set_option linter.unusedSimpArgs false
set_option maxRecDepth 4000
namespace Go.Ab
open Go.Proofs

theorem numOk_zero : NumOk zeroS := by
  have e : digits zeroS = zeroS := by unfold digits; rw [if_neg]; decide
  exact ⟨fun i hi => by rw [e] at hi ⊢; obtain rfl : i = 0 := by have : zeroS.size = 1 := rfl; omega
                        exact ⟨by decide, by decide⟩, by rw [e]; decide, fun _ => rfl⟩
theorem numOk_iff {s : ByteArray} (h : s ≠ zeroS) : NumOk s ↔ 0 < (digits s).size ∧ bt (digits s) 0 ≠ 48 ∧ ∀ i, i < (digits s).size → IsDig (bt (digits s) i) :=
  ⟨fun k => ⟨k.some, fun e => h (k.zero e), k.digs⟩, fun k => ⟨k.2.2, k.1, fun e => absurd e k.2.1⟩⟩

theorem tensFormed_ok (s : ByteArray) : PCall Tryz.prog 113 [vStr s] (vBool (tt (NumOk s))) := by
  refine PCall.bd Tryz.func113 rfl (by decide) rfl rfl (fun hbd => ?_)
  have hs : s.size ≤ 4611686018427387904 := D.Bd.str (hbd 0 (by simp))
  have hdl := digits_le s
  refine PCall.of_fx TTok mixed Tryz.func113 rfl (by decide) rfl rfl ?_
  conv => whnf
  refine bsel_intro (fun hz => ?_) (fun hz => ?_)
  · have hz : s = zeroS := strEq_iff.1 (by simpa [zeroS] using hz)
    conv => whnf
    exact retB TTok rfl (tt_t (by rw [hz]; exact numOk_zero))
  have hz : s ≠ zeroS := strEq_not.1 (by simpa [zeroS] using hz)
  rw [tt_congr (numOk_iff hz)]
  conv => whnf
  refine bsel_intro (fun h0 => ?_) (fun h0 => ?_)
  · have h0 : 0 < s.size := by
      have : s ≠ ⟨#[]⟩ := strEq_not.1 (by simpa using h0)
      rcases Nat.eq_zero_or_pos s.size with e | e
      · exact absurd (ByteArray.ext (Array.eq_empty_of_size_eq_zero e)) this
      · exact e
    conv => whnf
    refine idxB (k := 0) rfl h0 ?_
    conv => whnf
    refine bsel_intro (fun h1 => ?_) (fun h1 => ?_)
    · have h1 : bt s 0 = 45 := eqN h1
      have ed : digits s = s.extract 1 s.size := if_pos ⟨h0, h1⟩
      conv => whnf
      refine chk_intro (by simp; omega) ?_
      conv => whnf
      rw [show (s.extract (Int.toNat 1) s.size) = digits s from ed.symm]
      clear ed
      refine bsel_intro (fun he => ?_) (fun he => ?_)
      · have he : 0 < (digits s).size := by
          have : digits s ≠ ⟨#[]⟩ := strEq_not.1 (by simpa using he)
          rcases Nat.eq_zero_or_pos (digits s).size with e | e
          · exact absurd (ByteArray.ext (Array.eq_empty_of_size_eq_zero e)) this
          · exact e
        conv => whnf
        refine idxB (k := 0) rfl he ?_
        conv => whnf
        refine bsel_intro (fun hd => ?_) (fun hd => ?_)
        · have hd : bt (digits s) 0 = 48 := eqN hd
          conv => whnf
          exact retB TTok rfl (tt_f fun t => t.2.1 hd)
        have hd : bt (digits s) 0 ≠ 48 := neN hd
        conv => whnf
        refine ⟨SExec.loop_p (digits s).size (fun k => ∀ j, j < k → IsDig (bt (digits s) j)) (fun k => ⟨38, [(24, vInt k), (23, vInt (digits s).size), (0, vStr (digits s))], []⟩) upto_zero
          (fun k => Nat.le_refl _) (St.subD_of rfl [] rfl rfl (.cons (.refl _) rfl (.cons (.refl _) rfl (.cons (.refl _) rfl .nil)))) ?_⟩
        intro k hk hI
        refine fx_sound TTok mixed ?_
        conv => whnf
        refine bsel_intro (fun hlt => ?_) (fun hlt => ?_)
        · have hlt : k < (digits s).size := ltN hlt
          conv => whnf
          refine idxB rfl hlt ?_
          conv => whnf
          refine bsel_intro (fun h1 => ?_) (fun h1 => ?_)
          · have h1 := geN (k := 48) (beqF h1)
            conv => whnf
            refine idxB rfl hlt ?_
            conv => whnf
            refine bsel_intro (fun h2 => ?_) (fun h2 => ?_)
            · have h2 := ltN (n := 57) h2
              conv => whnf
              exact retB TTok rfl (tt_f fun t => by have := (t.2.2 k hlt).2; omega)
            · have h2 := geN (n := 57) h2
              conv => whnf
              exact ⟨⟨hlt, upto_succ hI ⟨h1, h2⟩⟩, St.subD_of rfl _ rfl rfl (.cons (.of_eq (vInt_succ k (by omega))) rfl (.cons (.refl _) rfl (.cons (.refl _) rfl .nil)))⟩
          · have h1 := ltN (k := 48) (beqF h1)
            conv => whnf
            exact retB TTok rfl (tt_f fun t => by have := (t.2.2 k hlt).1; omega)
        · have hge : (digits s).size ≤ k := geN hlt
          obtain rfl : k = (digits s).size := by omega
          conv => whnf
          exact retB TTok rfl (tt_t ⟨he, hd, hI⟩)
      · have he : digits s = ⟨#[]⟩ := strEq_iff.1 (by simpa using he)
        conv => whnf
        exact retB TTok rfl (tt_f fun t => by have := t.1; rw [he] at this; exact absurd this (by decide))
    · have h1 : bt s 0 ≠ 45 := neN h1
      have ed : digits s = s := if_neg (fun k => h1 k.2)
      conv => whnf
      rw [ed]
      refine bsel_intro (fun he => ?_) (fun he => ?_)
      · have he : 0 < s.size := by
          have : s ≠ ⟨#[]⟩ := strEq_not.1 (by simpa using he)
          rcases Nat.eq_zero_or_pos s.size with e | e
          · exact absurd (ByteArray.ext (Array.eq_empty_of_size_eq_zero e)) this
          · exact e
        conv => whnf
        refine idxB (k := 0) rfl he ?_
        conv => whnf
        refine bsel_intro (fun hd => ?_) (fun hd => ?_)
        · have hd : bt s 0 = 48 := eqN hd
          conv => whnf
          exact retB TTok rfl (tt_f fun t => t.2.1 hd)
        have hd : bt s 0 ≠ 48 := neN hd
        conv => whnf
        refine ⟨SExec.loop_p s.size (fun k => ∀ j, j < k → IsDig (bt s j)) (fun k => ⟨38, [(24, vInt k), (23, vInt s.size), (0, vStr s)], []⟩) upto_zero
          (fun k => Nat.le_refl _) (St.subD_of rfl [] rfl rfl (.cons (.refl _) rfl (.cons (.refl _) rfl (.cons (.refl _) rfl .nil)))) ?_⟩
        intro k hk hI
        refine fx_sound TTok mixed ?_
        conv => whnf
        refine bsel_intro (fun hlt => ?_) (fun hlt => ?_)
        · have hlt : k < s.size := ltN hlt
          conv => whnf
          refine idxB rfl hlt ?_
          conv => whnf
          refine bsel_intro (fun h1 => ?_) (fun h1 => ?_)
          · have h1 := geN (k := 48) (beqF h1)
            conv => whnf
            refine idxB rfl hlt ?_
            conv => whnf
            refine bsel_intro (fun h2 => ?_) (fun h2 => ?_)
            · have h2 := ltN (n := 57) h2
              conv => whnf
              exact retB TTok rfl (tt_f fun t => by have := (t.2.2 k hlt).2; omega)
            · have h2 := geN (n := 57) h2
              conv => whnf
              exact ⟨⟨hlt, upto_succ hI ⟨h1, h2⟩⟩, St.subD_of rfl _ rfl rfl (.cons (.of_eq (vInt_succ k (by omega))) rfl (.cons (.refl _) rfl (.cons (.refl _) rfl .nil)))⟩
          · have h1 := ltN (k := 48) (beqF h1)
            conv => whnf
            exact retB TTok rfl (tt_f fun t => by have := (t.2.2 k hlt).1; omega)
        · have hge : s.size ≤ k := geN hlt
          obtain rfl : k = s.size := by omega
          conv => whnf
          exact retB TTok rfl (tt_t ⟨he, hd, hI⟩)
      · have he : s = ⟨#[]⟩ := strEq_iff.1 (by simpa using he)
        conv => whnf
        exact retB TTok rfl (tt_f fun t => by have := t.1; rw [he] at this; exact absurd this (by decide))
  · have h0 : s = ⟨#[]⟩ := strEq_iff.1 (by simpa using h0)
    have ed : digits s = s := if_neg (fun k => by rw [h0] at k; exact absurd k.1 (by decide))
    conv => whnf
    rw [ed]
    refine bsel_intro (fun he => ?_) (fun he => ?_)
    · have he : 0 < s.size := by
        have : s ≠ ⟨#[]⟩ := strEq_not.1 (by simpa using he)
        rcases Nat.eq_zero_or_pos s.size with e | e
        · exact absurd (ByteArray.ext (Array.eq_empty_of_size_eq_zero e)) this
        · exact e
      conv => whnf
      refine idxB (k := 0) rfl he ?_
      conv => whnf
      refine bsel_intro (fun hd => ?_) (fun hd => ?_)
      · have hd : bt s 0 = 48 := eqN hd
        conv => whnf
        exact retB TTok rfl (tt_f fun t => t.2.1 hd)
      have hd : bt s 0 ≠ 48 := neN hd
      conv => whnf
      refine ⟨SExec.loop_p s.size (fun k => ∀ j, j < k → IsDig (bt s j)) (fun k => ⟨38, [(24, vInt k), (23, vInt s.size), (0, vStr s)], []⟩) upto_zero
        (fun k => Nat.le_refl _) (St.subD_of rfl [] rfl rfl (.cons (.refl _) rfl (.cons (.refl _) rfl (.cons (.refl _) rfl .nil)))) ?_⟩
      intro k hk hI
      refine fx_sound TTok mixed ?_
      conv => whnf
      refine bsel_intro (fun hlt => ?_) (fun hlt => ?_)
      · have hlt : k < s.size := ltN hlt
        conv => whnf
        refine idxB rfl hlt ?_
        conv => whnf
        refine bsel_intro (fun h1 => ?_) (fun h1 => ?_)
        · have h1 := geN (k := 48) (beqF h1)
          conv => whnf
          refine idxB rfl hlt ?_
          conv => whnf
          refine bsel_intro (fun h2 => ?_) (fun h2 => ?_)
          · have h2 := ltN (n := 57) h2
            conv => whnf
            exact retB TTok rfl (tt_f fun t => by have := (t.2.2 k hlt).2; omega)
          · have h2 := geN (n := 57) h2
            conv => whnf
            exact ⟨⟨hlt, upto_succ hI ⟨h1, h2⟩⟩, St.subD_of rfl _ rfl rfl (.cons (.of_eq (vInt_succ k (by omega))) rfl (.cons (.refl _) rfl (.cons (.refl _) rfl .nil)))⟩
        · have h1 := ltN (k := 48) (beqF h1)
          conv => whnf
          exact retB TTok rfl (tt_f fun t => by have := (t.2.2 k hlt).1; omega)
      · have hge : s.size ≤ k := geN hlt
        obtain rfl : k = s.size := by omega
        conv => whnf
        exact retB TTok rfl (tt_t ⟨he, hd, hI⟩)
    · have he : s = ⟨#[]⟩ := strEq_iff.1 (by simpa using he)
      conv => whnf
      exact retB TTok rfl (tt_f fun t => by have := t.1; rw [he] at this; exact absurd this (by decide))
end Go.Ab
