import Derived.Test.YtjggngbfmjneiaaDoorW2
set_option linter.unusedVariables false
set_option linter.unusedSimpArgs false
set_option maxRecDepth 4000
namespace Go.Ab
open Go.Proofs

theorem trail_ok (s : ByteArray) (i n : Nat) (low high : Int) (l h : Nat) (el : low = l) (eh : high = h) (hn : 0 < n) (hn4 : n ≤ 4) (hi : i ≤ 4611686018427387905) : PCall Tryd.prog 101 [vStr s, vInt i, vInt n, vU8 low, vU8 high] (vBool (tt (Trail s i n l h))) := by
  subst el eh
  refine PCall.bd Tryd.func101 rfl (by decide) rfl rfl (fun hbd => ?_)
  have hs : s.size ≤ 4611686018427387904 := D.Bd.str (hbd 0 (by simp))
  refine PCall.of_fx TTok mixed Tryd.func101 rfl (by decide) rfl rfl ?_
  conv => whnf
  have hw : IntKind.i64.wrap ((i : Int) + n) = (i + n : Nat) := by rw [wrap_id (by omega) (by omega)]; omega
  refine bsel_intro (fun hgt => ?_) (fun hle => ?_)
  · rw [hw] at hgt
    have hgt := dlt hgt
    conv => whnf
    exact retB TTok rfl (tt_f fun k => by have := k.fits; omega)
  rw [hw] at hle
  have hle := dge hle
  conv => whnf
  refine ⟨SExec.loop_p n (fun k => ∀ j, j < k → 128 ≤ bt s (i + j) ∧ bt s (i + j) ≤ 191) (fun k => ⟨49, [(11, vInt k), (0, vStr s), (1, vInt i), (2, vInt n), (3, vU8 l), (4, vU8 h)], []⟩) upto_zero
    (fun k => Nat.le_refl _) (St.subD_of rfl [] rfl rfl (.cons (.refl _) rfl (.cons (.refl _) rfl (.cons (.refl _) rfl (.cons (.refl _) rfl (.cons (.refl _) rfl (.cons (.refl _) rfl .nil))))))) ?_⟩
  intro k hk hI
  refine fx_sound TTok mixed ?_
  conv => whnf
  have hwk : k < n → IntKind.i64.wrap ((i : Int) + k) = (i + k : Nat) := fun h => by rw [wrap_id (by omega) (by omega)]; omega
  refine bsel_intro (fun hlt => ?_) (fun hge => ?_)
  · have hlt := dec_lt hlt
    conv => whnf
    refine idxB (hwk hlt) (by omega) ?_
    conv => whnf
    refine bsel_intro (fun h1 => ?_) (fun h1 => ?_)
    · have h1 := dge (beqF h1)
      conv => whnf
      refine idxB (hwk hlt) (by omega) ?_
      conv => whnf
      refine bsel_intro (fun h2 => ?_) (fun h2 => ?_)
      · have h2 := dlt h2
        conv => whnf
        exact retB TTok rfl (tt_f fun t => by have := t.all k hlt; omega)
      have h2 := dge h2
      conv => whnf
      refine ⟨⟨hlt, upto_succ hI ⟨by omega, by omega⟩⟩, St.subD_of rfl _ rfl rfl (.cons (.of_eq (vInt_succ k (by omega))) rfl (.cons (.refl _) rfl (.cons (.refl _) rfl (.cons (.refl _) rfl (.cons (.refl _) rfl (.cons (.refl _) rfl .nil))))))⟩
    · have h1 := dlt (beqF h1)
      conv => whnf
      exact retB TTok rfl (tt_f fun t => by have := t.all k hlt; omega)
  · have hge := dec_ge hge
    obtain rfl : k = n := by omega
    conv => whnf
    refine idxB rfl (by omega) ?_
    conv => whnf
    refine bsel_intro (fun h1 => ?_) (fun h1 => ?_)
    · have h1 := dle (beqT h1)
      conv => whnf
      refine idxB rfl (by omega) ?_
      conv => whnf
      exact retB TTok rfl (tt_eq ⟨fun h2 => ⟨by omega, hI, by omega, by have := dle h2; omega⟩, fun t => by have := t.first; simp; omega⟩)
    · have h1 := dgt (beqT h1)
      conv => whnf
      exact retB TTok rfl (tt_f fun t => by have := t.first; omega)
end Go.Ab
