import Derived.Test.YtjggngbfmjneiaaW53
set_option linter.unusedVariables false
set_option linter.unusedSimpArgs false
set_option maxRecDepth 4000
namespace Go.Ab
open Go.Proofs

/-- No part has more than one alternative. -/
inductive SingleP : Ty → Prop where
  | mk {t : Ty} (len : t.objects.length ≤ 1) (item : ∀ a ∈ t.arrays, SingleP a.item) (rest : ∀ o ∈ t.objects, SingleP o.rest) (field : ∀ o ∈ t.objects, ∀ f ∈ o.fields, SingleP f) : SingleP t
theorem SingleP.len {t : Ty} (h : SingleP t) : t.objects.length ≤ 1 := by cases h; assumption
theorem SingleP.item {t : Ty} (h : SingleP t) : ∀ a ∈ t.arrays, SingleP a.item := by cases h; assumption
theorem SingleP.rest {t : Ty} (h : SingleP t) : ∀ o ∈ t.objects, SingleP o.rest := by cases h; assumption
theorem SingleP.field {t : Ty} (h : SingleP t) : ∀ o ∈ t.objects, ∀ f ∈ o.fields, SingleP f := by cases h; assumption

set_option maxHeartbeats 2000000 in
theorem single_ok : ∀ t : Ty, PCall Try.prog 21 [vTy t] (vBool (tt (SingleP t))) := by
  intro t
  induction t using Ty.ind with
  | h t iha iho =>
  refine PCall.bd Try.func21 rfl (by decide) rfl rfl (fun hbd => ?_)
  have hdp := deep_of (hbd 0 (by simp))
  have hb := hdp.bd.arrays
  have hb2 := hdp.bd.objects
  simp only [maxRows] at hb hb2
  refine PCall.of_fx TTok mixed Try.func21 rfl (by decide) rfl rfl ?_
  conv => whnf
  refine bsel_intro (fun h1 => ?_) (fun h1 => ?_)
  · have h1 : 1 < t.objects.length := by
      simp [ofNat_cast] at h1; omega
    conv => whnf
    exact retB TTok rfl (tt_f fun h => by have := h.len; omega)
  have h1 : t.objects.length ≤ 1 := by
    simp [ofNat_cast] at h1; omega
  conv => whnf
  refine ⟨SExec.loop_p t.arrays.length (fun k => ∀ j (h : j < t.arrays.length), j < k → SingleP t.arrays[j].item) (fun k => ⟨62, [(3, vInt k), (1, .bx 0 0)], [.row 27 (cellsV (vTy t))]⟩) (fun j _ h => absurd h (Nat.not_lt_zero _))
    (fun k => Nat.le_refl _) (St.subD_of rfl [] rfl rfl (.cons (.refl _) rfl (.cons (.refl _) rfl .nil))) ?_⟩
  intro k hk hI
  refine fx_sound TTok mixed ?_
  conv => whnf
  refine bsel_intro (fun hlt => ?_) (fun hlt => ?_)
  · have hlt : k < t.arrays.length := by simpa using hlt
    have hm := List.getElem_mem hlt
    conv => whnf
    refine idxAr hlt rfl ?_
    conv => whnf
    refine (iha _ hm).use (.refl _) ?_
    conv => whnf
    refine bsel_intro (fun h2 => ?_) (fun h2 => ?_)
    · have h2 : ¬SingleP t.arrays[k].item := tt_not.1 (by simpa only [Bool.not_eq_true'] using h2)
      conv => whnf
      exact retB TTok rfl (tt_f fun h => h2 (h.item _ hm))
    · have h2 : SingleP t.arrays[k].item := tt_iff.1 (by simpa only [Bool.not_eq_false'] using h2)
      conv => whnf
      exact ⟨⟨hlt, all_next' (p := fun a => SingleP a.item) hlt hI h2⟩, St.subD_of rfl _ rfl rfl (.cons (.of_eq (vInt_succ k (by omega))) rfl (.cons (.refl _) rfl .nil))⟩
  have hge : t.arrays.length ≤ k := by simpa using hlt
  have hitem : ∀ a ∈ t.arrays, SingleP a.item := fun a ha => by
    obtain ⟨j, hj, rfl⟩ := List.mem_iff_getElem.1 ha
    exact hI j hj (by omega)
  clear hI
  conv => whnf
  refine ⟨SExec.loop_p t.objects.length (fun k => ∀ j (h : j < t.objects.length), j < k → SingleP t.objects[j].rest ∧ ∀ f ∈ t.objects[j].fields, SingleP f) (fun k => ⟨62, [(4, vInt k), (1, .bx 0 0)], [.row 27 (cellsV (vTy t))]⟩) (fun j _ h => absurd h (Nat.not_lt_zero _))
    (fun k => Nat.le_refl _) (St.subD_of rfl [] rfl rfl (.cons (.refl _) rfl (.cons (.refl _) rfl .nil))) ?_⟩
  intro k hk hI
  refine fx_sound TTok mixed ?_
  conv => whnf
  refine bsel_intro (fun hlt => ?_) (fun hlt => ?_)
  · have hlt : k < t.objects.length := by simpa using hlt
    have hm := List.getElem_mem hlt
    have hb3 := (ob_bd (deep_obj hdp hm)).fields
    simp only [maxRows] at hb3
    conv => whnf
    refine idxOb hlt rfl ?_
    conv => whnf
    refine ((iho _ hm).1).use (.refl _) ?_
    conv => whnf
    refine bsel_intro (fun h2 => ?_) (fun h2 => ?_)
    · have h2 : ¬SingleP t.objects[k].rest := tt_not.1 (by simpa only [Bool.not_eq_true'] using h2)
      conv => whnf
      exact retB TTok rfl (tt_f fun h => h2 (h.rest _ hm))
    have h2 : SingleP t.objects[k].rest := tt_iff.1 (by simpa only [Bool.not_eq_false'] using h2)
    conv => whnf
    refine ⟨SExec.loop_p t.objects[k].fields.length (fun i => ∀ j (h : j < t.objects[k].fields.length), j < i → SingleP t.objects[k].fields[j]) (fun i => ⟨62, [(5, vInt i), (4, vInt k), (1, .bx 0 0)], [.row 27 (cellsV (vTy t))]⟩) (fun j _ h => absurd h (Nat.not_lt_zero _))
      (fun k => Nat.le_refl _) (St.subD_of rfl [] rfl rfl (.cons (.refl _) rfl (.cons (.refl _) rfl (.cons (.refl _) rfl .nil)))) ?_⟩
    intro i hi hJ
    refine fx_sound TTok mixed ?_
    conv => whnf
    refine idxOb hlt rfl ?_
    conv => whnf
    refine bsel_intro (fun hlt2 => ?_) (fun hlt2 => ?_)
    · have hlt2 : i < t.objects[k].fields.length := by simpa using hlt2
      have hm2 := List.getElem_mem hlt2
      conv => whnf
      refine idxOb hlt rfl ?_
      conv => whnf
      refine idxTy hlt2 rfl ?_
      conv => whnf
      refine ((iho _ hm).2 _ hm2).use (.refl _) ?_
      conv => whnf
      refine bsel_intro (fun h3 => ?_) (fun h3 => ?_)
      · have h3 : ¬SingleP t.objects[k].fields[i] := tt_not.1 (by simpa only [Bool.not_eq_true'] using h3)
        conv => whnf
        exact retB TTok rfl (tt_f fun h => h3 (h.field _ hm _ hm2))
      · have h3 : SingleP t.objects[k].fields[i] := tt_iff.1 (by simpa only [Bool.not_eq_false'] using h3)
        conv => whnf
        exact ⟨⟨hlt2, all_next' (p := SingleP) hlt2 hJ h3⟩, St.subD_of rfl _ rfl rfl (.cons (.of_eq (vInt_succ i (by omega))) rfl (.cons (.refl _) rfl (.cons (.refl _) rfl .nil)))⟩
    · have hge2 : t.objects[k].fields.length ≤ i := by simpa using hlt2
      conv => whnf
      refine ⟨⟨hlt, all_next' (p := fun o => SingleP o.rest ∧ ∀ f ∈ o.fields, SingleP f) hlt hI ⟨h2, fun f hf => ?_⟩⟩, St.subD_of rfl _ rfl rfl (.cons (.of_eq (vInt_succ k (by omega))) rfl (.cons (.refl _) rfl .nil))⟩
      obtain ⟨j, hj, rfl⟩ := List.mem_iff_getElem.1 hf
      exact hJ j hj (by omega)
  · have hge : t.objects.length ≤ k := by simpa using hlt
    conv => whnf
    refine retB TTok rfl (tt_t (.mk h1 hitem (fun o ho => ?_) fun o ho => ?_))
    all_goals
      obtain ⟨j, hj, rfl⟩ := List.mem_iff_getElem.1 ho
    · exact (hI j hj (by omega)).1
    · exact (hI j hj (by omega)).2
end Go.Ab
