import Derived.Test.YtjggngbfmjneiaaW5
set_option linter.unusedVariables false
set_option linter.unusedSimpArgs false
set_option maxRecDepth 4000
namespace Go.Ab
open Go.Proofs

theorem spans_ok (l : List Sp) : PCall Try.prog 25 [vSps l] (vBool (tt (SpansOk l))) := by
  refine PCall.of_fx TTok mixed Try.func25 rfl (by decide) rfl rfl ?_
  conv => whnf
  refine bsel_intro (fun h1 => ?_) (fun h1 => ?_)
  · have h1 : 1 < l.length := by simp at h1; omega
    conv => whnf
    exact retB TTok rfl (tt_f fun t => by have := t.len; omega)
  have h1 : l.length ≤ 1 := by simp at h1; omega
  conv => whnf
  refine ⟨SExec.loop_p l.length (fun k => ∀ j (h : j < l.length), j < k → l[j].Ok) (fun k => ⟨57, [(3, vInt k), (0, vSps l)], []⟩) (fun j _ h => absurd h (Nat.not_lt_zero _))
    (fun k => Nat.le_refl _) (St.subD_of rfl [] rfl rfl (.cons (.refl _) rfl (.cons (.refl _) rfl .nil))) ?_⟩
  intro k hk hI
  refine fx_sound TTok mixed ?_
  conv => whnf
  refine bsel_intro (fun hlt => ?_) (fun hlt => ?_)
  · have hlt : k < l.length := by simpa using hlt
    conv => whnf
    refine idxSp hlt rfl ?_
    conv => whnf
    refine (bound_ok _).use (.refl _) ?_
    conv => whnf
    refine bsel_intro (fun h2 => ?_) (fun h2 => ?_)
    · have h2 := tt_iff.1 (by simpa using h2)
      conv => whnf
      refine idxSp hlt rfl ?_
      conv => whnf
      refine (bound_ok _).use (.refl _) ?_
      conv => whnf
      refine bsel_intro (fun h3 => ?_) (fun h3 => ?_)
      · have h3 := tt_not.1 (by simpa using h3)
        conv => whnf
        exact retB TTok rfl (tt_f fun t => h3 (t.ok _ (List.getElem_mem hlt)).high)
      have h3 := tt_iff.1 (by simpa using h3)
      conv => whnf
      (refine ⟨by decide +kernel, ?_⟩; conv => whnf)
      refine idxSp hlt rfl ?_
      conv => whnf
      refine bsel_intro (fun h4 => ?_) (fun h4 => ?_)
      · have h4 : l[k].low ≠ ⟨#[]⟩ := strEq_not.1 (by simpa using h4)
        conv => whnf
        refine idxSp hlt rfl ?_
        conv => whnf
        refine bsel_intro (fun h5 => ?_) (fun h5 => ?_)
        · have h5 : l[k].high ≠ ⟨#[]⟩ := strEq_not.1 (by simpa using h5)
          conv => whnf
          refine idxSp hlt rfl ?_
          conv => whnf
          refine idxSp hlt rfl ?_
          conv => whnf
          refine (numbers_ok l[k].low l[k].high (h2.resolve_left h4) (h3.resolve_left h5)).useQ (.refl _) ?_
          conv => whnf
          refine bsel_intro (fun h6 => ?_) (fun h6 => ?_)
          · have h6 : 0 < numCmp l[k].low l[k].high := by simpa using h6
            conv => whnf
            exact retB TTok rfl (tt_f fun t => by have := (t.ok _ (List.getElem_mem hlt)).order h4 h5; omega)
          · have h6 : numCmp l[k].low l[k].high ≤ 0 := by simpa using h6
            conv => whnf
            exact ⟨⟨hlt, fun j hj hjk => by
              by_cases e : j = k
              · subst e; exact ⟨h2, h3, fun _ _ => h6⟩
              · exact hI j hj (by omega)⟩, St.subD_of rfl _ rfl rfl (.cons (.of_eq (vInt_succ k (by omega))) rfl (.cons (.refl _) rfl .nil))⟩
        · have h5 : l[k].high = ⟨#[]⟩ := strEq_iff.1 (by simpa using h5)
          conv => whnf
          exact ⟨⟨hlt, fun j hj hjk => by
            by_cases e : j = k
            · subst e; exact ⟨h2, h3, fun _ k => absurd h5 k⟩
            · exact hI j hj (by omega)⟩, St.subD_of rfl _ rfl rfl (.cons (.of_eq (vInt_succ k (by omega))) rfl (.cons (.refl _) rfl .nil))⟩
      · have h4 : l[k].low = ⟨#[]⟩ := strEq_iff.1 (by simpa using h4)
        conv => whnf
        exact ⟨⟨hlt, fun j hj hjk => by
          by_cases e : j = k
          · subst e; exact ⟨h2, h3, fun k _ => absurd h4 k⟩
          · exact hI j hj (by omega)⟩, St.subD_of rfl _ rfl rfl (.cons (.of_eq (vInt_succ k (by omega))) rfl (.cons (.refl _) rfl .nil))⟩
    · have h2 := tt_not.1 (by simpa using h2)
      conv => whnf
      exact retB TTok rfl (tt_f fun t => h2 (t.ok _ (List.getElem_mem hlt)).low)
  · have hge : l.length ≤ k := by simpa using hlt
    conv => whnf
    refine retB TTok rfl (tt_t ⟨h1, fun s hs => ?_⟩)
    obtain ⟨j, hj, rfl⟩ := List.mem_iff_getElem.1 hs
    exact hI j hj (by omega)
end Go.Ab
