import Derived.Test.YtjggngbfmjneiaaGreatPX
import Derived.Test.YtjggngbfmjneiaaGreatTab
set_option linter.unusedVariables false
set_option linter.unusedSimpArgs false
set_option maxRecDepth 4000
namespace Go.Ab
open Go.Proofs

def gt0 (n : Nat) : Bool := decide ((n : Int) > 0)
theorem gt0_eq (n : Nat) : gt0 n = decide (0 < n) := by simp [gt0]
def pk (bs : List Bool) : Nat → Int
  | 0 => 0
  | k + 1 => or8If (bs.getD k false) (pk bs k) (2 ^ k)
theorem pk_true {bs : List Bool} {k : Nat} {p : Int} (h : bs.getD k false = true) (e : or8 (pk bs k) (2 ^ k) = p) : V.d (.lit (.int .u8 p)) = vU8 (pk bs (k + 1)) := by
  rw [← e, pk, or8If, if_pos h]; rfl
theorem pk_false {bs : List Bool} {k : Nat} (h : bs.getD k false = false) : vU8 (pk bs k) = vU8 (pk bs (k + 1)) := by
  rw [pk, or8If, if_neg (by rw [h]; decide)]
theorem pk_end (b0 b1 b2 b3 b4 b5 b6 : Bool) : pk [b0, b1, b2, b3, b4, b5, b6] 7 = (kN b0 b1 b2 b3 b4 b5 b6 : Nat) := or8_kN b0 b1 b2 b3 b4 b5 b6

set_option maxHeartbeats 4000000 in
theorem kinds_ok (t : Ty) : PCall Tryz.prog 71 [vTy t] (vU8 (kinds t)) := by
  obtain ⟨al, b0, b1, b2, nums, b4, texts, arrays, objects⟩ := t
  have e2 : kinds (.mk al b0 b1 b2 nums b4 texts arrays objects) = if al = true then 127 else kN b0 b1 b2 (gt0 (nums.map Sp.cells).length) (b4 || gt0 (texts.map strC).length) (gt0 (arrays.map Ar.cells).length) (gt0 (objects.map Ob.cells).length) := by
    simp only [gt0_eq, List.length_map]; rfl
  refine PCall.of_fx TTok mixed Tryz.func71 rfl (by decide) rfl rfl ?_
  cases al with
  | true =>
    rw [e2]
    conv => whnf
    exact retP TTok rfl (.of_eq rfl) rfl
  | false =>
  rw [e2, if_neg (by decide)]
  clear e2
  cases b4 with
  | true =>
    conv => whnf
    refine ⟨SExec.loop_n 7 (fun k => ⟨46, [(35, vInt k), (34, .agg [vBool b0, vBool b1, vBool b2, vBool (gt0 (nums.map Sp.cells).length), vBool true, vBool (gt0 (arrays.map Ar.cells).length), vBool (gt0 (objects.map Ob.cells).length)]), (3, vU8 (pk [b0, b1, b2, gt0 (nums.map Sp.cells).length, true, gt0 (arrays.map Ar.cells).length, gt0 (objects.map Ob.cells).length] k))], [.row 27 (cellsV (vTy (.mk false b0 b1 b2 nums true texts arrays objects)))]⟩)
      (fun k => Nat.le_refl _) (St.subD_of rfl [] rfl rfl (.cons (.refl _) rfl (.cons (.refl _) rfl (.cons (.refl _) rfl .nil)))) ?_⟩
    rw [Bool.true_or, ← pk_end]
    generalize gt0 (nums.map Sp.cells).length = b3
    generalize gt0 (arrays.map Ar.cells).length = b5
    generalize gt0 (objects.map Ob.cells).length = b6
    intro k hk
    refine fx_sound TTok mixed ?_
    rcases (show k = 0 ∨ k = 1 ∨ k = 2 ∨ k = 3 ∨ k = 4 ∨ k = 5 ∨ k = 6 ∨ k = 7 by omega) with rfl | rfl | rfl | rfl | rfl | rfl | rfl | rfl
    · conv => whnf
      refine bsel_intro (fun h => ?_) (fun h => ?_)
      · have h : b0 = true := h
        conv => whnf
        exact ⟨by omega, St.subD_of rfl _ rfl rfl (.cons (.of_eq (vInt_succ 0 (by omega))) rfl (.cons (.refl _) rfl (.cons (.of_eq (pk_true (by exact h) rfl)) rfl .nil)))⟩
      · have h : b0 = false := h
        conv => whnf
        exact ⟨by omega, St.subD_of rfl _ rfl rfl (.cons (.of_eq (vInt_succ 0 (by omega))) rfl (.cons (.refl _) rfl (.cons (.of_eq (pk_false (by exact h))) rfl .nil)))⟩
    · conv => whnf
      refine bsel_intro (fun h => ?_) (fun h => ?_)
      · have h : b1 = true := h
        conv => whnf
        exact ⟨by omega, St.subD_of rfl _ rfl rfl (.cons (.of_eq (vInt_succ 1 (by omega))) rfl (.cons (.refl _) rfl (.cons (.of_eq (pk_true (by exact h) rfl)) rfl .nil)))⟩
      · have h : b1 = false := h
        conv => whnf
        exact ⟨by omega, St.subD_of rfl _ rfl rfl (.cons (.of_eq (vInt_succ 1 (by omega))) rfl (.cons (.refl _) rfl (.cons (.of_eq (pk_false (by exact h))) rfl .nil)))⟩
    · conv => whnf
      refine bsel_intro (fun h => ?_) (fun h => ?_)
      · have h : b2 = true := h
        conv => whnf
        exact ⟨by omega, St.subD_of rfl _ rfl rfl (.cons (.of_eq (vInt_succ 2 (by omega))) rfl (.cons (.refl _) rfl (.cons (.of_eq (pk_true (by exact h) rfl)) rfl .nil)))⟩
      · have h : b2 = false := h
        conv => whnf
        exact ⟨by omega, St.subD_of rfl _ rfl rfl (.cons (.of_eq (vInt_succ 2 (by omega))) rfl (.cons (.refl _) rfl (.cons (.of_eq (pk_false (by exact h))) rfl .nil)))⟩
    · conv => whnf
      refine bsel_intro (fun h => ?_) (fun h => ?_)
      · have h : b3 = true := h
        conv => whnf
        exact ⟨by omega, St.subD_of rfl _ rfl rfl (.cons (.of_eq (vInt_succ 3 (by omega))) rfl (.cons (.refl _) rfl (.cons (.of_eq (pk_true (by exact h) rfl)) rfl .nil)))⟩
      · have h : b3 = false := h
        conv => whnf
        exact ⟨by omega, St.subD_of rfl _ rfl rfl (.cons (.of_eq (vInt_succ 3 (by omega))) rfl (.cons (.refl _) rfl (.cons (.of_eq (pk_false (by exact h))) rfl .nil)))⟩
    · conv => whnf
      exact ⟨by omega, St.subD_of rfl _ rfl rfl (.cons (.of_eq (vInt_succ 4 (by omega))) rfl (.cons (.refl _) rfl (.cons (.of_eq (pk_true (by rfl) rfl)) rfl .nil)))⟩
    · conv => whnf
      refine bsel_intro (fun h => ?_) (fun h => ?_)
      · have h : b5 = true := h
        conv => whnf
        exact ⟨by omega, St.subD_of rfl _ rfl rfl (.cons (.of_eq (vInt_succ 5 (by omega))) rfl (.cons (.refl _) rfl (.cons (.of_eq (pk_true (by exact h) rfl)) rfl .nil)))⟩
      · have h : b5 = false := h
        conv => whnf
        exact ⟨by omega, St.subD_of rfl _ rfl rfl (.cons (.of_eq (vInt_succ 5 (by omega))) rfl (.cons (.refl _) rfl (.cons (.of_eq (pk_false (by exact h))) rfl .nil)))⟩
    · conv => whnf
      refine bsel_intro (fun h => ?_) (fun h => ?_)
      · have h : b6 = true := h
        conv => whnf
        exact ⟨by omega, St.subD_of rfl _ rfl rfl (.cons (.of_eq (vInt_succ 6 (by omega))) rfl (.cons (.refl _) rfl (.cons (.of_eq (pk_true (by exact h) rfl)) rfl .nil)))⟩
      · have h : b6 = false := h
        conv => whnf
        exact ⟨by omega, St.subD_of rfl _ rfl rfl (.cons (.of_eq (vInt_succ 6 (by omega))) rfl (.cons (.refl _) rfl (.cons (.of_eq (pk_false (by exact h))) rfl .nil)))⟩
    · conv => whnf
      exact retP TTok rfl (.refl _) rfl
  | false =>
    conv => whnf
    refine ⟨SExec.loop_n 7 (fun k => ⟨46, [(35, vInt k), (34, .agg [vBool b0, vBool b1, vBool b2, vBool (gt0 (nums.map Sp.cells).length), vBool (gt0 (texts.map strC).length), vBool (gt0 (arrays.map Ar.cells).length), vBool (gt0 (objects.map Ob.cells).length)]), (3, vU8 (pk [b0, b1, b2, gt0 (nums.map Sp.cells).length, (gt0 (texts.map strC).length), gt0 (arrays.map Ar.cells).length, gt0 (objects.map Ob.cells).length] k))], [.row 27 (cellsV (vTy (.mk false b0 b1 b2 nums false texts arrays objects)))]⟩)
      (fun k => Nat.le_refl _) (St.subD_of rfl [] rfl rfl (.cons (.refl _) rfl (.cons (.refl _) rfl (.cons (.refl _) rfl .nil)))) ?_⟩
    rw [Bool.false_or, ← pk_end]
    generalize gt0 (nums.map Sp.cells).length = b3
    generalize gt0 (texts.map strC).length = b4
    generalize gt0 (arrays.map Ar.cells).length = b5
    generalize gt0 (objects.map Ob.cells).length = b6
    intro k hk
    refine fx_sound TTok mixed ?_
    rcases (show k = 0 ∨ k = 1 ∨ k = 2 ∨ k = 3 ∨ k = 4 ∨ k = 5 ∨ k = 6 ∨ k = 7 by omega) with rfl | rfl | rfl | rfl | rfl | rfl | rfl | rfl
    · conv => whnf
      refine bsel_intro (fun h => ?_) (fun h => ?_)
      · have h : b0 = true := h
        conv => whnf
        exact ⟨by omega, St.subD_of rfl _ rfl rfl (.cons (.of_eq (vInt_succ 0 (by omega))) rfl (.cons (.refl _) rfl (.cons (.of_eq (pk_true (by exact h) rfl)) rfl .nil)))⟩
      · have h : b0 = false := h
        conv => whnf
        exact ⟨by omega, St.subD_of rfl _ rfl rfl (.cons (.of_eq (vInt_succ 0 (by omega))) rfl (.cons (.refl _) rfl (.cons (.of_eq (pk_false (by exact h))) rfl .nil)))⟩
    · conv => whnf
      refine bsel_intro (fun h => ?_) (fun h => ?_)
      · have h : b1 = true := h
        conv => whnf
        exact ⟨by omega, St.subD_of rfl _ rfl rfl (.cons (.of_eq (vInt_succ 1 (by omega))) rfl (.cons (.refl _) rfl (.cons (.of_eq (pk_true (by exact h) rfl)) rfl .nil)))⟩
      · have h : b1 = false := h
        conv => whnf
        exact ⟨by omega, St.subD_of rfl _ rfl rfl (.cons (.of_eq (vInt_succ 1 (by omega))) rfl (.cons (.refl _) rfl (.cons (.of_eq (pk_false (by exact h))) rfl .nil)))⟩
    · conv => whnf
      refine bsel_intro (fun h => ?_) (fun h => ?_)
      · have h : b2 = true := h
        conv => whnf
        exact ⟨by omega, St.subD_of rfl _ rfl rfl (.cons (.of_eq (vInt_succ 2 (by omega))) rfl (.cons (.refl _) rfl (.cons (.of_eq (pk_true (by exact h) rfl)) rfl .nil)))⟩
      · have h : b2 = false := h
        conv => whnf
        exact ⟨by omega, St.subD_of rfl _ rfl rfl (.cons (.of_eq (vInt_succ 2 (by omega))) rfl (.cons (.refl _) rfl (.cons (.of_eq (pk_false (by exact h))) rfl .nil)))⟩
    · conv => whnf
      refine bsel_intro (fun h => ?_) (fun h => ?_)
      · have h : b3 = true := h
        conv => whnf
        exact ⟨by omega, St.subD_of rfl _ rfl rfl (.cons (.of_eq (vInt_succ 3 (by omega))) rfl (.cons (.refl _) rfl (.cons (.of_eq (pk_true (by exact h) rfl)) rfl .nil)))⟩
      · have h : b3 = false := h
        conv => whnf
        exact ⟨by omega, St.subD_of rfl _ rfl rfl (.cons (.of_eq (vInt_succ 3 (by omega))) rfl (.cons (.refl _) rfl (.cons (.of_eq (pk_false (by exact h))) rfl .nil)))⟩
    · conv => whnf
      refine bsel_intro (fun h => ?_) (fun h => ?_)
      · have h : b4 = true := h
        conv => whnf
        exact ⟨by omega, St.subD_of rfl _ rfl rfl (.cons (.of_eq (vInt_succ 4 (by omega))) rfl (.cons (.refl _) rfl (.cons (.of_eq (pk_true (by exact h) rfl)) rfl .nil)))⟩
      · have h : b4 = false := h
        conv => whnf
        exact ⟨by omega, St.subD_of rfl _ rfl rfl (.cons (.of_eq (vInt_succ 4 (by omega))) rfl (.cons (.refl _) rfl (.cons (.of_eq (pk_false (by exact h))) rfl .nil)))⟩
    · conv => whnf
      refine bsel_intro (fun h => ?_) (fun h => ?_)
      · have h : b5 = true := h
        conv => whnf
        exact ⟨by omega, St.subD_of rfl _ rfl rfl (.cons (.of_eq (vInt_succ 5 (by omega))) rfl (.cons (.refl _) rfl (.cons (.of_eq (pk_true (by exact h) rfl)) rfl .nil)))⟩
      · have h : b5 = false := h
        conv => whnf
        exact ⟨by omega, St.subD_of rfl _ rfl rfl (.cons (.of_eq (vInt_succ 5 (by omega))) rfl (.cons (.refl _) rfl (.cons (.of_eq (pk_false (by exact h))) rfl .nil)))⟩
    · conv => whnf
      refine bsel_intro (fun h => ?_) (fun h => ?_)
      · have h : b6 = true := h
        conv => whnf
        exact ⟨by omega, St.subD_of rfl _ rfl rfl (.cons (.of_eq (vInt_succ 6 (by omega))) rfl (.cons (.refl _) rfl (.cons (.of_eq (pk_true (by exact h) rfl)) rfl .nil)))⟩
      · have h : b6 = false := h
        conv => whnf
        exact ⟨by omega, St.subD_of rfl _ rfl rfl (.cons (.of_eq (vInt_succ 6 (by omega))) rfl (.cons (.refl _) rfl (.cons (.of_eq (pk_false (by exact h))) rfl .nil)))⟩
    · conv => whnf
      exact retP TTok rfl (.refl _) rfl
end Go.Ab
