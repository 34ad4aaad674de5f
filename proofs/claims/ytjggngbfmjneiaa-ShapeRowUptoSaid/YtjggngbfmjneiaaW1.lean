import Derived.Test.YtjggngbfmjneiaaPB
import Derived.Test.YtjggngbfmjneiaaTab
set_option linter.unusedVariables false
set_option linter.unusedSimpArgs false
namespace Go.Ab
open Go.Proofs

theorem height_ok : ∀ t : Ty, t.height ≤ 1000000 → PCall Try.prog 7 [vTy t] (vInt t.height) := by
  intro t
  induction t using Ty.ind with
  | h t iha iho =>
  intro hb
  refine PCall.bd Try.func7 rfl (by decide) rfl rfl (fun hbd => ?_)
  have hbt := ty_bd (hbd 0 (by simp))
  have hla := hbt.arrays
  have hlo := hbt.objects
  simp only [maxRows] at hla hlo
  refine PCall.of_fx TTok mixed Try.func7 rfl (by decide) rfl rfl ?_
  conv => whnf
  refine ⟨SExec.loop_n t.arrays.length (fun k => ⟨50, [(13, vInt k), (12, vInt t.arrays.length), (11, vArs t.arrays), (3, vInt (mxL (-1) ((t.arrays.map fun a => a.item.height).take k))), (1, .bx 0 0)], [.row 27 (cellsV (vTy t))]⟩)
    (fun k => Nat.le_refl _) (St.subD_of rfl [] rfl rfl (.cons (.refl _) rfl (.cons (.of_eq (vInt_len ..)) rfl (.cons (.refl _) rfl (.cons (.refl _) rfl (.cons (.refl _) rfl .nil)))))) ?_⟩
  intro k hk
  refine fx_sound TTok mixed ?_
  conv => whnf
  refine bsel_intro (fun hlt => ?_) (fun hge => ?_)
  · have hlt := dec_lt hlt
    conv => whnf
    refine idxAr hlt rfl ?_
    conv => whnf
    have hm := List.getElem_mem hlt
    have hh := Ty.height_arr hm
    refine (iha t.arrays[k] hm (by omega)).use (.cons (.refl _) .nil) ?_
    conv => whnf
    refine ⟨hlt, St.subD_of rfl _ rfl rfl (.cons (.of_eq (vInt_succ k (by omega))) rfl (.cons (.refl _) rfl (.cons (.refl _) rfl (.cons (.of_eq ?_) rfl (.cons (.refl _) rfl .nil)))))⟩
    rw [take_map_succ _ _ k hlt, mxL_snoc]
    rfl
  · have hge := dec_ge hge
    obtain rfl : k = t.arrays.length := by omega
    rw [List.take_of_length_le (by simp)]
    conv => whnf
    refine ⟨SExec.loop_n t.objects.length (fun k => ⟨50, [(26, vInt k), (25, vInt t.objects.length), (24, vObs t.objects), (3, vInt (mxL (mxL (-1) (t.arrays.map fun a => a.item.height)) ((t.objects.take k).flatMap Ob.heights))), (1, .bx 0 0)], [.row 27 (cellsV (vTy t))]⟩)
      (fun k => Nat.le_refl _) (St.subD_of rfl [] rfl rfl (.cons (.refl _) rfl (.cons (.of_eq (vInt_len ..)) rfl (.cons (.refl _) rfl (.cons (.refl _) rfl (.cons (.refl _) rfl .nil)))))) ?_⟩
    intro k hk
    refine fx_sound TTok mixed ?_
    conv => whnf
    refine bsel_intro (fun hlt => ?_) (fun hge => ?_)
    · have hlt := dec_lt hlt
      conv => whnf
      refine idxOb hlt rfl ?_
      conv => whnf
      have hm := List.getElem_mem hlt
      have hh := Ty.height_rest hm
      refine ((iho t.objects[k] hm).1 (by omega)).use (.cons (.refl _) .nil) ?_
      conv => whnf
      have hlf := (ob_bd (hbt.objs _ hm)).fields
      simp only [maxRows] at hlf
      generalize hM : mxL (mxL (-1) (t.arrays.map fun a => a.item.height)) ((t.objects.take k).flatMap Ob.heights) = m0
      refine ⟨SExec.loop_n t.objects[k].fields.length (fun j => ⟨50, [(38, vInt j), (37, vInt t.objects[k].fields.length), (36, vTys t.objects[k].fields), (3, vInt (mxL (mx m0 t.objects[k].rest.height) ((t.objects[k].fields.map fun f => f.height).take j))),
          (26, vInt k), (25, vInt t.objects.length), (24, vObs t.objects), (1, .bx 0 0)], [.row 27 (cellsV (vTy t)), .row 32 (cellsV (vOb t.objects[k]))]⟩)
        (fun k => Nat.le_refl _) (St.subD_of rfl [] rfl rfl (.cons (.refl _) rfl (.cons (.of_eq (vInt_len ..)) rfl (.cons (.refl _) rfl (.cons (.refl _) rfl (.cons (.refl _) rfl (.cons (.refl _) rfl (.cons (.refl _) rfl (.cons (.refl _) rfl .nil))))))))) ?_⟩
      intro j hj
      refine fx_sound TTok mixed ?_
      conv => whnf
      refine bsel_intro (fun hlt2 => ?_) (fun hge2 => ?_)
      · have hlt2 := dec_lt hlt2
        conv => whnf
        refine idxTy hlt2 rfl ?_
        conv => whnf
        have hm2 := List.getElem_mem hlt2
        have hh2 := Ty.height_field hm hm2
        refine ((iho t.objects[k] hm).2 _ hm2 (by omega)).use (.cons (.refl _) .nil) ?_
        conv => whnf
        refine ⟨hlt2, St.subD_of rfl _ rfl rfl (.cons (.of_eq (vInt_succ j (by omega))) rfl (.cons (.refl _) rfl (.cons (.refl _) rfl (.cons (.of_eq ?_) rfl (.cons (.refl _) rfl (.cons (.refl _) rfl (.cons (.refl _) rfl (.cons (.refl _) rfl .nil))))))))⟩
        rw [take_map_succ _ _ j hlt2, mxL_snoc]
        rfl
      · have hge2 := dec_ge hge2
        obtain rfl : j = t.objects[k].fields.length := by omega
        rw [List.take_of_length_le (by simp)]
        conv => whnf
        refine ⟨hlt, St.subD_of rfl _ rfl rfl (.cons (.of_eq (vInt_succ k (by omega))) rfl (.cons (.refl _) rfl (.cons (.refl _) rfl (.cons (.of_eq ?_) rfl (.cons (.refl _) rfl .nil)))))⟩
        rw [take_flat_succ _ _ k hlt, mxL_append, hM]
        rfl
    · have hge := dec_ge hge
      obtain rfl : k = t.objects.length := by omega
      rw [List.take_of_length_le (by simp)]
      conv => whnf
      refine retI TTok rfl ?_
      have h0 := Ty.height_nonneg t
      rw [Ty.height_eq] at h0 hb ⊢
      rw [wrap_id (by omega) (by omega)]
      omega
end Go.Ab
