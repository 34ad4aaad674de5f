import Derived.Test.YtjggngbfmjneiaaW8
import Derived.Test.YtjggngbfmjneiaaPW
set_option linter.unusedVariables false
set_option linter.unusedSimpArgs false
set_option maxRecDepth 4000
namespace Go.Ab
open Go.Proofs

theorem partsOf_ok : ∀ v : Val, DeepV v → ∀ m : Int, 0 ≤ m → m ≤ 20000 → PCall Try.prog 42 [vVal v, vInt m] (vInt (v.pt m)) := by
  intro v
  induction v using Val.ind with
  | h v ih =>
  intro hd m h0 hm
  have b1 := hd.bd.items
  have b2 := hd.bd.keys
  simp only [maxRows] at b1 b2
  have hA := ptVal h0 hm v.items 1 (fun a ha k h1 h2 => ptV_ok a (deepV_item hd ha) k h1 (by omega)) (by omega) (by omega)
  rw [Val.pt_eq]
  generalize hN1 : Val.ptL v.items 1 m = N1 at hA ⊢
  refine PCall.of_fx TTok mixed Try.func42 rfl (by decide) rfl rfl ?_
  conv => whnf
  refine ⟨SExec.loop_i (fun i : Nat × Int => ⟨35, [(6, vInt i.1), (5, vInt i.2), (2, .bx 0 0), (1, vInt m)], [.row 39 (cellsV (vVal v))]⟩) (fun i => i.1 ≤ v.items.length ∧ 1 ≤ i.2 ∧ i.2 ≤ m * 281474976710656 + 1 ∧ Val.ptL (v.items.drop i.1) i.2 m = N1) (fun i => v.items.length - i.1)
    (0, 1) ⟨by omega, by dsimp only; omega, by dsimp only; omega, by simpa using hN1⟩
    (fun k => Nat.le_refl _) (St.subD_of rfl [] rfl rfl (.cons (.refl _) rfl (.cons (.refl _) rfl (.cons (.refl _) rfl (.cons (.refl _) rfl .nil))))) ?_⟩
  rintro ⟨k, n⟩ ⟨hk, hn1, hn2, hI⟩
  dsimp only at hk hn1 hn2 hI
  have hend : ∀ n : Int, 1 ≤ n → n ≤ m * 281474976710656 + 1 → V.d (.lit (.int .i64 (IntKind.i64.wrap (n + ((v.keys.map strC).length : Int))))) = vInt (n + v.keys.length) := fun n a b => vInt_wrap (by simp only [List.length_map]; omega) (by simp only [List.length_map]; omega) (by simp)
  refine fx_sound TTok mixed ?_
  conv => whnf
  refine bsel_intro (fun hlt => ?_) (fun hlt => ?_)
  · have hlt : k < v.items.length := by simpa using hlt
    rw [List.drop_eq_getElem_cons hlt, Val.ptL] at hI
    conv => whnf
    refine bsel_intro (fun hle => ?_) (fun hle => ?_)
    · have hle := dle hle
      rw [if_pos hle] at hI
      have hp := ptV_ok _ (deepV_item hd (List.getElem_mem hlt)) (m - n) (by omega) (by omega)
      have p1 := hp.one
      have p2 := hp.cap
      simp only [capV] at p2
      conv => whnf
      refine idxVal hlt rfl ?_
      conv => whnf
      refine (ih _ (List.getElem_mem hlt) (deepV_item hd (List.getElem_mem hlt)) (m - n) (by omega) (by omega)).use (.cons (.refl _) (.cons (.of_eq (vInt_wrap (by omega) (by omega) rfl)) .nil)) ?_
      conv => whnf
      exact ⟨(k + 1, n + v.items[k].pt (m - n)), ⟨hlt, by dsimp only; omega, by dsimp only; omega, hI⟩, by dsimp only; omega, St.subD_of rfl _ rfl rfl (.cons (.of_eq (vInt_succ k (by omega))) rfl (.cons (.of_eq (vInt_wrap (by omega) (by omega) rfl)) rfl (.cons (.refl _) rfl (.cons (.refl _) rfl .nil))))⟩
    · have hgt := dgt hle
      rw [if_neg (by omega)] at hI
      subst hI
      conv => whnf
      exact retP TTok rfl (.of_eq (hend n hn1 hn2)) rfl
  · have hge : v.items.length ≤ k := by simpa using hlt
    rw [List.drop_eq_nil_of_le hge, Val.ptL] at hI
    subst hI
    conv => whnf
    exact retP TTok rfl (.of_eq (hend n hn1 hn2)) rfl

theorem fit1_ok (v : Val) : PCall Try.prog 15 [vVals [v]] (vBool (decide (v.pt 20000 ≤ 20000))) := by
  refine PCall.bd Try.func15 rfl (by decide) rfl rfl (fun hbd => ?_)
  have hd : DeepV v := by
    have h1 : (D.sl ([v].map Val.cells)).Bd := hbd 0 (by simp)
    exact h1.row (List.mem_map.2 ⟨v, by simp, Val.cells_eq v⟩)
  have hp := ptV_ok v hd 20000 (by omega) (by omega)
  have p1 := hp.one
  have p2 := hp.cap
  simp only [capV] at p2
  refine PCall.of_fx TTok mixed Try.func15 rfl (by decide) rfl rfl ?_
  conv => whnf
  have ew : V.d (.lit (.int .i64 (IntKind.i64.wrap (0 + v.pt 20000)))) = vInt (v.pt 20000) := vInt_wrap (by omega) (by omega) (by omega)
  refine ⟨SExec.loop_p 1 (fun k => 0 < k → v.pt 20000 ≤ 20000) (fun k => ⟨22, [(4, vInt k), (3, vInt (if k = 0 then 0 else v.pt 20000)), (0, vVals [v])], []⟩) (fun h => absurd h (by omega))
    (fun k => Nat.le_refl _) (St.subD_of rfl [] rfl rfl (.cons (.refl _) rfl (.cons (.refl _) rfl (.cons (.refl _) rfl .nil)))) ?_⟩
  intro k hk hI
  refine fx_sound TTok mixed ?_
  conv => whnf
  refine bsel_intro (fun hlt => ?_) (fun hlt => ?_)
  · have hlt : k < 1 := by have := of_decide_eq_true hlt; simp at this; omega
    obtain rfl : k = 0 := by omega
    conv => whnf
    refine idxVal (l := [v]) (k := 0) (by simp) rfl ?_
    conv => whnf
    refine (partsOf_ok v hd 20000 (by omega) (by omega)).use (.refl _) ?_
    conv => whnf
    refine bsel_intro (fun h2 => ?_) (fun h2 => ?_)
    · conv => whnf
      refine retB TTok rfl (decide_eq_false ?_).symm
      rw [wrap_id (by omega) (by omega)] at h2
      have := of_decide_eq_true h2
      omega
    · rw [wrap_id (by omega) (by omega)] at h2
      have h2 := of_decide_eq_false h2
      conv => whnf
      exact ⟨⟨by omega, fun _ => by omega⟩, St.subD_of rfl _ rfl rfl (.cons (.of_eq (vInt_succ 0 (by omega))) rfl (.cons (.of_eq ew) rfl (.cons (.refl _) rfl .nil)))⟩
  · have hge : 1 ≤ k := by have := of_decide_eq_false hlt; simp at this; omega
    conv => whnf
    exact retB TTok rfl (decide_eq_true (hI (by omega))).symm
end Go.Ab
