import Derived.Test.YtjggngbfmjneiaaGreatW8
import Derived.Test.YtjggngbfmjneiaaGreatW1
set_option linter.unusedVariables false
set_option linter.unusedSimpArgs false
set_option maxRecDepth 4000
namespace Go.Ab
open Go.Proofs

theorem higher_ok (t : Ty) (M : Int) (hM : -1 ≤ M) (hM2 : M ≤ 1000000) (hb : t.height ≤ 1000000) (h : PCall Tryz.prog 9 [vTy t] (vInt t.height)) : PCall Tryz.prog 18 [vInt (1 + M), vTy t] (vInt (1 + mx M t.height)) := by
  have h0 := Ty.height_nonneg t
  have w : IntKind.i64.wrap (t.height + 1) = t.height + 1 := wrap_id (by omega) (by omega)
  refine PCall.of_fx TTok mixed Tryz.func18 rfl (by decide) rfl rfl ?_
  conv => whnf
  refine h.use (.refl _) ?_
  conv => whnf
  refine bsel_intro (fun hlt => ?_) (fun hlt => ?_)
  · have hlt := of_decide_eq_true hlt
    rw [w] at hlt
    conv => whnf
    exact retI TTok rfl (by rw [w, mx, if_pos (by omega)]; omega)
  · have hlt := of_decide_eq_false hlt
    rw [w] at hlt
    conv => whnf
    exact retI TTok rfl (by rw [mx, if_neg (by omega)])

theorem refHeight_ok : ∀ t : Ty, t.height ≤ 1000000 → PCall Tryz.prog 9 [vTy t] (vInt t.height) := by
  intro t
  induction t using Ty.ind with
  | h t iha iho =>
  intro hb
  refine PCall.bd Tryz.func9 rfl (by decide) rfl rfl (fun hbd => ?_)
  have hbt := ty_bd (hbd 0 (by simp))
  have hla := hbt.arrays
  have hlo := hbt.objects
  simp only [maxRows] at hla hlo
  have bA : ∀ k, mxL (-1) ((t.arrays.map fun a => a.item.height).take k) ≤ 1000000 := fun k => mxL_le _ _ (by omega) fun x hx => by
    obtain ⟨a, ha, rfl⟩ := List.mem_map.1 (List.mem_of_mem_take hx)
    have := Ty.height_arr ha; omega
  have bA' : ∀ k, -1 ≤ mxL (-1) ((t.arrays.map fun a => a.item.height).take k) := fun k => mxL_ge _ _
  generalize hMA : mxL (-1) (t.arrays.map fun a => a.item.height) = MA
  have hMA1 : -1 ≤ MA ∧ MA ≤ 1000000 := by
    rw [← hMA]
    have := bA t.arrays.length
    rw [List.take_of_length_le (by simp)] at this
    exact ⟨mxL_ge _ _, this⟩
  have bO : ∀ k, mxL MA ((t.objects.take k).flatMap Ob.heights) ≤ 1000000 := fun k => mxL_le _ _ hMA1.2 fun x hx => by
    obtain ⟨o, ho, hx⟩ := List.mem_flatMap.1 hx
    have := Ty.height_obj (List.mem_of_mem_take ho) hx; omega
  have bO' : ∀ k, -1 ≤ mxL MA ((t.objects.take k).flatMap Ob.heights) := fun k => Int.le_trans hMA1.1 (mxL_ge _ _)
  rw [Ty.height_eq, hMA]
  refine PCall.of_fx TTok mixed Tryz.func9 rfl (by decide) rfl rfl ?_
  conv => whnf
  refine ⟨SExec.loop_n t.arrays.length (fun k => ⟨60, [(4, vInt k), (3, vInt (1 + mxL (-1) ((t.arrays.map fun a => a.item.height).take k))), (1, .bx 0 0)], [.row 27 (cellsV (vTy t))]⟩)
    (fun k => Nat.le_refl _) (St.subD_of rfl [] rfl rfl (.cons (.refl _) rfl (.cons (.refl _) rfl (.cons (.refl _) rfl .nil)))) ?_⟩
  intro k hk
  refine fx_sound TTok mixed ?_
  conv => whnf
  refine bsel_intro (fun hlt => ?_) (fun hlt => ?_)
  · have hlt : k < t.arrays.length := by simpa using hlt
    conv => whnf
    refine idxAr hlt rfl ?_
    conv => whnf
    have hm := List.getElem_mem hlt
    have hh := Ty.height_arr hm
    refine (higher_ok t.arrays[k].item _ (bA' k) (bA k) (by omega) (iha t.arrays[k] hm (by omega))).use (.refl _) ?_
    conv => whnf
    refine ⟨hlt, St.subD_of rfl _ rfl rfl (.cons (.of_eq (vInt_succ k (by omega))) rfl (.cons (.of_eq ?_) rfl (.cons (.refl _) rfl .nil)))⟩
    rw [take_map_succ _ _ k hlt, mxL_snoc]
    rfl
  · have hge : t.arrays.length ≤ k := by simpa using hlt
    obtain rfl : k = t.arrays.length := by omega
    rw [List.take_of_length_le (by simp), hMA]
    conv => whnf
    refine ⟨SExec.loop_n t.objects.length (fun k => ⟨60, [(5, vInt k), (3, vInt (1 + mxL MA ((t.objects.take k).flatMap Ob.heights))), (1, .bx 0 0)], [.row 27 (cellsV (vTy t))]⟩)
      (fun k => Nat.le_refl _) (St.subD_of rfl [] rfl rfl (.cons (.refl _) rfl (.cons (.refl _) rfl (.cons (.refl _) rfl .nil)))) ?_⟩
    intro k hk
    refine fx_sound TTok mixed ?_
    conv => whnf
    refine bsel_intro (fun hlt => ?_) (fun hlt => ?_)
    · have hlt : k < t.objects.length := by simpa using hlt
      conv => whnf
      refine idxOb hlt rfl ?_
      conv => whnf
      have hm := List.getElem_mem hlt
      have hh := Ty.height_rest hm
      refine (higher_ok t.objects[k].rest _ (bO' k) (bO k) (by omega) ((iho t.objects[k] hm).1 (by omega))).use (.refl _) ?_
      conv => whnf
      have hlf := (ob_bd (hbt.objs _ hm)).fields
      simp only [maxRows] at hlf
      have c1 := bO k
      have c2 := bO' k
      generalize hM : mxL MA ((t.objects.take k).flatMap Ob.heights) = m0 at c1 c2
      have bF : ∀ j, mxL (mx m0 t.objects[k].rest.height) ((t.objects[k].fields.map fun f => f.height).take j) ≤ 1000000 := fun j => mxL_le _ _ (by have := (mx_ge m0 t.objects[k].rest.height).2.2; omega) fun x hx => by
        obtain ⟨f, hf, rfl⟩ := List.mem_map.1 (List.mem_of_mem_take hx)
        have := Ty.height_field hm hf; omega
      have bF' : ∀ j, -1 ≤ mxL (mx m0 t.objects[k].rest.height) ((t.objects[k].fields.map fun f => f.height).take j) := fun j => Int.le_trans (by have := (mx_ge m0 t.objects[k].rest.height).1; omega) (mxL_ge _ _)
      refine ⟨SExec.loop_n t.objects[k].fields.length (fun j => ⟨60, [(6, vInt j), (3, vInt (1 + mxL (mx m0 t.objects[k].rest.height) ((t.objects[k].fields.map fun f => f.height).take j))), (5, vInt k), (1, .bx 0 0)], [.row 27 (cellsV (vTy t))]⟩)
        (fun k => Nat.le_refl _) (St.subD_of rfl [] rfl rfl (.cons (.refl _) rfl (.cons (.refl _) rfl (.cons (.refl _) rfl (.cons (.refl _) rfl .nil))))) ?_⟩
      intro j hj
      refine fx_sound TTok mixed ?_
      conv => whnf
      refine idxOb hlt rfl ?_
      conv => whnf
      refine bsel_intro (fun hlt2 => ?_) (fun hlt2 => ?_)
      · have hlt2 : j < t.objects[k].fields.length := by simpa using hlt2
        conv => whnf
        refine idxOb hlt rfl ?_
        conv => whnf
        refine idxTy hlt2 rfl ?_
        conv => whnf
        have hm2 := List.getElem_mem hlt2
        have hh2 := Ty.height_field hm hm2
        refine (higher_ok _ _ (bF' j) (bF j) (by omega) ((iho t.objects[k] hm).2 _ hm2 (by omega))).use (.refl _) ?_
        conv => whnf
        refine ⟨hlt2, St.subD_of rfl _ rfl rfl (.cons (.of_eq (vInt_succ j (by omega))) rfl (.cons (.of_eq ?_) rfl (.cons (.refl _) rfl (.cons (.refl _) rfl .nil))))⟩
        rw [take_map_succ _ _ j hlt2, mxL_snoc]
        rfl
      · have hge2 : t.objects[k].fields.length ≤ j := by simpa using hlt2
        obtain rfl : j = t.objects[k].fields.length := by omega
        rw [List.take_of_length_le (by simp)]
        conv => whnf
        refine ⟨hlt, St.subD_of rfl _ rfl rfl (.cons (.of_eq (vInt_succ k (by omega))) rfl (.cons (.of_eq ?_) rfl (.cons (.refl _) rfl .nil)))⟩
        rw [take_flat_succ _ _ k hlt, mxL_append, hM]
        rfl
    · have hge : t.objects.length ≤ k := by simpa using hlt
      obtain rfl : k = t.objects.length := by omega
      rw [List.take_of_length_le (by simp)]
      conv => whnf
      exact retI TTok rfl rfl
end Go.Ab
