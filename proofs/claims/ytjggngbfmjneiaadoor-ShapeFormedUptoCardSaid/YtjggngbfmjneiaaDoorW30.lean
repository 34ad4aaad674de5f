import Derived.Test.YtjggngbfmjneiaaDoorW29
import Derived.Test.YtjggngbfmjneiaaDoorW8
set_option linter.unusedVariables false
set_option linter.unusedSimpArgs false
set_option maxRecDepth 4000
namespace Go.Ab
open Go.Proofs

theorem sbare_ok (t : Ty) : PCall Tryd.prog 85 [vTy t] (vBool (tt (Bare t))) := by
  refine PCall.of_fx TTok mixed Tryd.func85 rfl (by decide) rfl rfl ?_
  conv => whnf
  repeat' (refine bsel_intro (fun _ => ?_) (fun _ => ?_) <;> conv => whnf)
  all_goals exact retB TTok rfl (tt_eq (by rw [bare_iff]; simp_all [ofNat_cast]))
theorem snever_ok (t : Ty) : PCall Tryd.prog 89 [vTy t] (vBool (tt (Never t))) := by
  refine PCall.of_fx TTok mixed Tryd.func89 rfl (by decide) rfl rfl ?_
  conv => whnf
  refine bsel_intro (fun h1 => ?_) (fun h1 => ?_)
  · have h1 : t.all = false := by simpa using h1
    conv => whnf
    refine (sbare_ok t).use (.refl _) ?_
    conv => whnf
    exact retB TTok rfl (tt_congr ⟨fun h => ⟨h1, h⟩, fun h => h.bare⟩)
  · have h1 : t.all = true := by simpa using h1
    conv => whnf
    exact retB TTok rfl (tt_f fun h => by have := h.all; rw [h1] at this; cases this)
theorem severy_ok (t : Ty) : PCall Tryd.prog 57 [vTy t] (vBool (tt (t.all = true → Bare t))) := by
  refine PCall.of_fx TTok mixed Tryd.func57 rfl (by decide) rfl rfl ?_
  conv => whnf
  refine bsel_intro (fun h1 => ?_) (fun h1 => ?_)
  · have h1 : t.all = true := by simpa using h1
    conv => whnf
    refine (sbare_ok t).use (.refl _) ?_
    conv => whnf
    exact retB TTok rfl (tt_congr ⟨fun h _ => h, fun h => h h1⟩)
  · have h1 : t.all = false := by simpa using h1
    conv => whnf
    exact retB TTok rfl (tt_t fun h => by rw [h1] at h; cases h)

theorem srise_ok (l : List ByteArray) : PCall Tryd.prog 88 [vStrs l] (vBool (tt (Rise l))) := by
  refine PCall.bd Tryd.func88 rfl (by decide) rfl rfl (fun hbd => ?_)
  have hl : l.length ≤ 140737488355328 := bd_map (hbd 0 (by simp))
  refine PCall.of_fx TTok mixed Tryd.func88 rfl (by decide) rfl rfl ?_
  conv => whnf
  refine ⟨SExec.loop_p l.length (fun k => ∀ j (h : j < l.length), j < k → Utf l[j] ∧ ∀ h0 : 0 < j, strLt l[j - 1] l[j] = true) (fun k => ⟨29, [(7, vInt k), (6, vInt l.length), (5, vStrs l), (0, vStrs l)], []⟩) (fun j _ h => absurd h (Nat.not_lt_zero _))
    (fun k => Nat.le_refl _) (St.subD_of rfl [] rfl rfl (.cons (.refl _) rfl (.cons (.of_eq (vInt_len ..)) rfl (.cons (.refl _) rfl (.cons (.refl _) rfl .nil))))) ?_⟩
  intro k hk hI
  refine fx_sound TTok mixed ?_
  conv => whnf
  refine bsel_intro (fun hlt => ?_) (fun hlt => ?_)
  · have hlt : k < l.length := by simpa using hlt
    conv => whnf
    refine idxStr hlt rfl ?_
    conv => whnf
    refine (utfValid_ok l[k]).use (.refl _) ?_
    conv => whnf
    refine bsel_intro (fun hu => ?_) (fun hu => ?_)
    case' refine_2 =>
      have hu := tt_not.1 (by simpa using hu)
      conv => whnf
      exact retB TTok rfl (tt_f fun t => hu (t.utf _ (List.getElem_mem hlt)))
    have hu := tt_iff.1 (by simpa using hu)
    conv => whnf
    refine bsel_intro (fun h0 => ?_) (fun h0 => ?_)
    · have h0 : 0 < k := by simpa using h0
      conv => whnf
      have ek : IntKind.i64.wrap ((k : Int) - 1) = ((k - 1 : Nat) : Int) := by rw [wrap_id (by omega) (by omega)]; omega
      rw [ek]
      refine idxStr (by omega) rfl ?_
      conv => whnf
      refine bsel_intro (fun hc => ?_) (fun hc => ?_)
      · have hc : strLt l[k - 1] l[k] = false := by simpa using hc
        conv => whnf
        exact retB TTok rfl (tt_f fun t => by
          have := t.up (k - 1) (by omega)
          have e : k - 1 + 1 = k := by omega
          simp only [e] at this
          rw [hc] at this; cases this)
      · have hc : strLt l[k - 1] l[k] = true := by simpa using hc
        conv => whnf
        refine ⟨⟨hlt, fun j hj hjk => ?_⟩, St.subD_of rfl _ rfl rfl (.cons (.of_eq (vInt_succ k (by omega))) rfl (.cons (.refl _) rfl (.cons (.refl _) rfl (.cons (.refl _) rfl .nil))))⟩
        by_cases e : j = k
        · subst e; exact ⟨hu, fun _ => hc⟩
        · exact hI j hj (by omega)
    · have h0 : k = 0 := by simpa using h0
      conv => whnf
      refine ⟨⟨hlt, fun j hj hjk => ?_⟩, St.subD_of rfl _ rfl rfl (.cons (.of_eq (vInt_succ k (by omega))) rfl (.cons (.refl _) rfl (.cons (.refl _) rfl (.cons (.refl _) rfl .nil))))⟩
      by_cases e : j = k
      · subst e; exact ⟨hu, fun h => by omega⟩
      · exact hI j hj (by omega)
  · have hge : l.length ≤ k := by simpa using hlt
    conv => whnf
    refine retB TTok rfl (tt_t ⟨fun s hs => ?_, fun i h => ?_⟩)
    · obtain ⟨j, hj, rfl⟩ := List.mem_iff_getElem.1 hs
      exact (hI j hj (by omega)).1
    · exact (hI (i + 1) h (by omega)).2 (by omega)

theorem stexts_ok (t : Ty) : PCall Tryd.prog 59 [vTy t] (vBool (tt (Rise t.texts ∧ (t.anyText = true → t.texts.length = 0)))) := by
  refine PCall.of_fx TTok mixed Tryd.func59 rfl (by decide) rfl rfl ?_
  conv => whnf
  refine (srise_ok t.texts).use (.refl _) ?_
  conv => whnf
  refine bsel_intro (fun h1 => ?_) (fun h1 => ?_)
  · have h1 : Rise t.texts := tt_iff.1 (by simpa using h1)
    conv => whnf
    refine bsel_intro (fun h2 => ?_) (fun h2 => ?_)
    · have h2 : t.anyText = true := by simpa using h2
      conv => whnf
      exact retB TTok rfl (tt_eq (by simp [h1, h2]))
    · have h2 : t.anyText = false := by simpa using h2
      conv => whnf
      exact retB TTok rfl (tt_t ⟨h1, fun h => by rw [h2] at h; cases h⟩)
  · have h1 : ¬Rise t.texts := tt_not.1 (by simpa using h1)
    conv => whnf
    exact retB TTok rfl (tt_f fun h => h1 h.1)
end Go.Ab
