import Derived.Test.YtjggngbfmjneiaaDoorW2c
set_option linter.unusedVariables false
set_option linter.unusedSimpArgs false
set_option maxRecDepth 4000
namespace Go.Ab
open Go.Proofs

theorem utf_ok (s : ByteArray) : PCall Tryd.prog 52 [vStr s] (vBool (tt (Utf s))) := by
  refine PCall.bd Tryd.func52 rfl (by decide) rfl rfl (fun hbd => ?_)
  have hs : s.size ≤ 4611686018427387904 := D.Bd.str (hbd 0 (by simp))
  refine PCall.of_fx TTok mixed Tryd.func52 rfl (by decide) rfl rfl ?_
  conv => whnf
  refine ⟨SExec.loop_i (fun k : Nat => ⟨17, [(3, vInt k), (0, vStr s)], []⟩) (fun k => k ≤ s.size + 4 ∧ (UtfFrom s k ↔ Utf s)) (fun k => s.size + 4 - k) 0 ⟨by omega, Iff.rfl⟩
    (fun k => Nat.le_refl _) (St.subD_of rfl [] rfl rfl (.cons (.refl _) rfl (.cons (.refl _) rfl .nil))) ?_⟩
  intro k ⟨hk, hI⟩
  refine fx_sound TTok mixed ?_
  conv => whnf
  refine bsel_intro (fun hlt => ?_) (fun hlt => ?_)
  · have hlt := dec_lt hlt
    conv => whnf
    refine (width_ok s k hlt).use (.refl _) ?_
    conv => whnf
    have hw4 := wid_le s k
    refine bsel_intro (fun h0 => ?_) (fun h0 => ?_)
    · conv => whnf
      have h0 : wid s k = 0 := by simpa using h0
      exact retB TTok rfl (tt_f fun t => utf_bad hlt h0 (hI.2 t))
    · have h0 : wid s k ≠ 0 := by simpa using h0
      conv => whnf
      exact ⟨k + wid s k, ⟨by omega, (utf_step hlt (by omega)).trans hI⟩, by omega, St.subD_of rfl _ rfl rfl (.cons (.of_eq (vInt_wrap (by omega) (by omega) (by omega))) rfl (.cons (.refl _) rfl .nil))⟩
  · have hge := dec_ge hlt
    conv => whnf
    exact retB TTok rfl (tt_t (hI.1 (.done hge)))

theorem rise_ok (l : List ByteArray) : PCall Tryd.prog 26 [vStrs l] (vBool (tt (Rise l))) := by
  refine PCall.bd Tryd.func26 rfl (by decide) rfl rfl (fun hbd => ?_)
  have hl : l.length ≤ 140737488355328 := bd_map (hbd 0 (by simp))
  refine PCall.of_fx TTok mixed Tryd.func26 rfl (by decide) rfl rfl ?_
  conv => whnf
  refine ⟨SExec.loop_p l.length (fun k => ∀ j (h : j < l.length), j < k → Utf l[j] ∧ ∀ h0 : 0 < j, strLt l[j - 1] l[j] = true) (fun k => ⟨30, [(3, vInt k), (0, vStrs l)], []⟩) (fun j _ h => absurd h (Nat.not_lt_zero _))
    (fun k => Nat.le_refl _) (St.subD_of rfl [] rfl rfl (.cons (.refl _) rfl (.cons (.refl _) rfl .nil))) ?_⟩
  intro k hk hI
  refine fx_sound TTok mixed ?_
  conv => whnf
  refine bsel_intro (fun hlt => ?_) (fun hlt => ?_)
  · have hlt : k < l.length := by simpa using hlt
    conv => whnf
    refine idxStr hlt rfl ?_
    conv => whnf
    refine (utf_ok _).use (.refl _) ?_
    conv => whnf
    refine bsel_intro (fun hu => ?_) (fun hu => ?_)
    · have hu := tt_not.1 (by simpa using hu)
      conv => whnf
      exact retB TTok rfl (tt_f fun t => hu (t.utf _ (List.getElem_mem hlt)))
    have hu := tt_iff.1 (by simpa using hu)
    conv => whnf
    (refine ⟨by decide +kernel, ?_⟩; conv => whnf)
    refine bsel_intro (fun h0 => ?_) (fun h0 => ?_)
    · have h0 : 0 < k := by simpa using h0
      conv => whnf
      have ek : IntKind.i64.wrap ((k : Int) - 1) = ((k - 1 : Nat) : Int) := by rw [wrap_id (by omega) (by omega)]; omega
      rw [ek]
      refine idxStr (by omega) rfl ?_
      conv => whnf
      refine idxStr hlt rfl ?_
      conv => whnf
      refine bsel_intro (fun hc => ?_) (fun hc => ?_)
      · have hc : strLt l[k - 1] l[k] = false := by simpa using hc
        conv => whnf
        exact retB TTok rfl (tt_f fun t => by
          have := t.up (k - 1) (by omega)
          have e : k - 1 + 1 = k := by omega
          simp only [e] at this
          rw [hc] at this; cases this)
      · have hc : strLt l[k - 1] l[k] = true := by simpa using hc
        conv => whnf
        refine ⟨⟨hlt, fun j hj hjk => ?_⟩, St.subD_of rfl _ rfl rfl (.cons (.of_eq (vInt_succ k (by omega))) rfl (.cons (.refl _) rfl .nil))⟩
        by_cases e : j = k
        · subst e; exact ⟨hu, fun _ => hc⟩
        · exact hI j hj (by omega)
    · have h0 : k = 0 := by simpa using h0
      conv => whnf
      refine ⟨⟨hlt, fun j hj hjk => ?_⟩, St.subD_of rfl _ rfl rfl (.cons (.of_eq (vInt_succ k (by omega))) rfl (.cons (.refl _) rfl .nil))⟩
      by_cases e : j = k
      · subst e; exact ⟨hu, fun h => by omega⟩
      · exact hI j hj (by omega)
  · have hge : l.length ≤ k := by simpa using hlt
    conv => whnf
    refine retB TTok rfl (tt_t ⟨fun s hs => ?_, fun i h => ?_⟩)
    · obtain ⟨j, hj, rfl⟩ := List.mem_iff_getElem.1 hs
      exact (hI j hj (by omega)).1
    · exact (hI (i + 1) h (by omega)).2 (by omega)
end Go.Ab
