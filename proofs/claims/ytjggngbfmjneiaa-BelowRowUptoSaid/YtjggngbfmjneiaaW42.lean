import Derived.Test.YtjggngbfmjneiaaW41
import Derived.Test.YtjggngbfmjneiaaW25
import Derived.Test.YtjggngbfmjneiaaW26k
set_option linter.unusedVariables false
set_option linter.unusedSimpArgs false
set_option maxRecDepth 4000
namespace Go.Ab
open Go.Proofs

theorem bnever_ok (t : Ty) : PCall Try.prog 49 [vTy t] (vBool (decide (kinds t = 0))) := by
  refine PCall.of_fx TTok mixed Try.func49 rfl (by decide) rfl rfl ?_
  conv => whnf
  refine (kinds_ok t).use (.refl _) ?_
  conv => whnf
  exact retB TTok rfl (by
    show (((kinds t : Nat) : Int) == 0) = decide (kinds t = 0)
    by_cases h : kinds t = 0 <;> simp [h])

theorem tyKinds_120 : tyKinds 120 = .mk false false false false [spOpen] true [] [arOpen] [obOpen] := by
  have e : ∀ k b, bit 120 k = b → bit 120 k = b := fun _ _ h => h
  unfold tyKinds tyOf
  rw [if_neg (by decide)]
  rfl
theorem laid_ok (t : Ty) : PCall Try.prog 55 [vTy t] (vTy (laid t)) := by
  refine PCall.of_fx TTok mixed Try.func55 rfl (by decide) rfl rfl ?_
  conv => whnf
  refine bsel_intro (fun h1 => ?_) (fun h1 => ?_)
  · have h1 : t.all = false := by simpa using h1
    have e : laid t = t := by rw [laid, if_neg (by simp [h1])]
    rw [e]
    conv => whnf
    exact retP TTok rfl (.refl _) rfl
  · have h1 : t.all = true := by simpa using h1
    have e : laid t = tyLaid := by rw [laid, if_pos h1]
    rw [e]
    conv => whnf
    have h2 := ofKinds_ok 120 (by omega)
    rw [tyKinds_120] at h2
    refine h2.use (.refl _) ?_
    conv => whnf
    exact retP TTok rfl (.refl _) rfl

theorem btexts1_ok (b : Ty) (s : ByteArray) (o : O) (X : List O) (hX : hpLt (o :: .row 75 (cellsV (vTy b)) :: X).length (o :: .row 75 (cellsV (vTy b)) :: X) = true) : HCall Try.prog 79 [vStr s, .bx 1 0] (o :: .row 75 (cellsV (vTy b)) :: X) (vBool (!tt (s ∈ b.texts))) := by
  refine HCall.of_fx TTok mixed Try.func79 rfl (by decide) rfl ?_
  conv => whnf
  refine (contains_ok b.texts s).use (.refl _) ?_
  conv => whnf
  exact retH (extra := []) TTok rfl (List.append_nil _).symm hX (.of_eq rfl) rfl
theorem btexts_ok (a b : Ty) : PCall Try.prog 52 [vTy a, vTy b] (vBool (tt (TextsIn a b))) := by
  refine PCall.bd Try.func52 rfl (by decide) rfl rfl (fun hbd => ?_)
  have hb := (deep_of (hbd 0 (by simp))).bd.texts
  simp only [maxRows] at hb
  refine PCall.of_fx TTok mixed Try.func52 rfl (by decide) rfl rfl ?_
  conv => whnf
  refine bsel_intro (fun h1 => ?_) (fun h1 => ?_)
  · have h1 : b.anyText = false := by simpa using h1
    conv => whnf
    refine bsel_intro (fun h2 => ?_) (fun h2 => ?_)
    · have h2 : a.anyText = true := by simpa using h2
      conv => whnf
      exact retB TTok rfl (tt_eq (by unfold TextsIn; simp [h1, h2]))
    · have h2 : a.anyText = false := by simpa using h2
      conv => whnf
      refine (containsFunc_ok _ (.bx 1 0) [] _ rfl rfl (fun s => !tt (s ∈ b.texts)) a.texts hb fun s _ => btexts1_ok b s _ [] rfl).use (.refl _) ?_
      conv => whnf
      refine retB TTok rfl (tt_eq ?_)
      unfold TextsIn
      simp only [Bool.not_eq_true', List.any_eq_false, h1, h2]
      simp [tt_iff]
  · have h1 : b.anyText = true := by simpa using h1
    conv => whnf
    exact retB TTok rfl (tt_eq (by unfold TextsIn; simp [h1]))
theorem atexts1_ok (b : Ty) (s : ByteArray) (o : O) (X : List O) (hX : hpLt (o :: .row 75 (cellsV (vTy b)) :: X).length (o :: .row 75 (cellsV (vTy b)) :: X) = true) : HCall Try.prog 88 [vStr s, .bx 1 0] (o :: .row 75 (cellsV (vTy b)) :: X) (vBool (tt (s ∈ b.texts))) := by
  refine HCall.of_fx TTok mixed Try.func88 rfl (by decide) rfl ?_
  conv => whnf
  refine (contains_ok b.texts s).use (.refl _) ?_
  conv => whnf
  exact retH (extra := []) TTok rfl (List.append_nil _).symm hX (.of_eq rfl) rfl
theorem atexts_ok (a b : Ty) : PCall Try.prog 58 [vTy a, vTy b] (vBool (tt (TextsAp a b))) := by
  refine PCall.bd Try.func58 rfl (by decide) rfl rfl (fun hbd => ?_)
  have hb := (deep_of (hbd 0 (by simp))).bd.texts
  simp only [maxRows] at hb
  clear hbd
  obtain ⟨a0, a1, a2, a3, a4, ax, at', a7, a8⟩ := a
  obtain ⟨b0, b1, b2, b3, b4, bx, bt', b7, b8⟩ := b
  refine PCall.of_fx TTok mixed Try.func58 rfl (by decide) rfl rfl ?_
  have len0 : ∀ {l : List ByteArray} {c : Bool}, (((l.map strC).length : Int) == 0) = c → (c = true ↔ l = []) := fun {l c} h => by subst h; cases l <;> simp; omega
  cases ax <;> cases bx
  · conv => whnf
    refine (containsFunc_ok _ (.bx 1 0) [] _ rfl rfl (fun s => tt (s ∈ bt')) at' hb fun s _ => atexts1_ok (.mk b0 b1 b2 b3 b4 false bt' b7 b8) s _ [] rfl).use (.refl _) ?_
    conv => whnf
    refine retB TTok rfl (tt_eq ?_)
    unfold TextsAp
    simp only [Bool.not_eq_true', List.any_eq_false]
    simp [tt_iff, Ty.anyText, Ty.texts]
  all_goals conv => whnf
  · refine bsel_intro (fun h1 => ?_) (fun h1 => ?_)
    · have h1 := (len0 (l := at') (beqT h1)).1 rfl
      conv => whnf
      exact retB TTok rfl (tt_eq ((len0 rfl).trans (by unfold TextsAp; simp [Ty.anyText, Ty.texts] at h1 ⊢; simp [h1])))
    · have h1 : ¬ at' = [] := fun e => by have := (len0 (l := at') (beqT h1)).2 e; cases this
      conv => whnf
      exact retB TTok rfl (tt_f fun h => h1 (h.1 (.inr rfl)).2.1)
  · refine bsel_intro (fun h1 => ?_) (fun h1 => ?_)
    · have h1 := (len0 (l := at') (beqT h1)).1 rfl
      conv => whnf
      exact retB TTok rfl (tt_eq ((len0 rfl).trans (by unfold TextsAp; simp [Ty.anyText, Ty.texts] at h1 ⊢; simp [h1])))
    · have h1 : ¬ at' = [] := fun e => by have := (len0 (l := at') (beqT h1)).2 e; cases this
      conv => whnf
      exact retB TTok rfl (tt_f fun h => h1 (h.1 (.inl rfl)).2.1)
  · exact retB TTok rfl (tt_f fun h => (h.1 (.inl rfl)).1 ⟨rfl, rfl⟩)
end Go.Ab
