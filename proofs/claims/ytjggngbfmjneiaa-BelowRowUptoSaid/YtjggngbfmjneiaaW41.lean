import Derived.Test.YtjggngbfmjneiaaW40
set_option linter.unusedVariables false
set_option linter.unusedSimpArgs false
set_option maxRecDepth 4000
namespace Go.Ab
open Go.Proofs

/-- Where the first element of a list is that a test takes; -1: none is. -/
def idxP {α : Type} (p : α → Bool) (l : List α) : Int := match l.findIdx? p with
  | some i => i
  | none => -1
theorem idxP_ge {α : Type} (p : α → Bool) (l : List α) : decide (idxP p l ≥ 0) = l.any p := by
  unfold idxP
  cases h : l.findIdx? p with
  | some i =>
    have hi := List.findIdx?_eq_some_iff_getElem.1 h
    obtain ⟨hlt, hp, _⟩ := hi
    have : l.any p = true := List.any_eq_true.2 ⟨l[i], List.getElem_mem hlt, hp⟩
    rw [this]; simp
  | none =>
    have := List.findIdx?_eq_none_iff.1 h
    have h2 : l.any p = false := by rw [List.any_eq_false]; intro x hx; rw [this x hx]; simp
    rw [h2]; simp
theorem idxP_at {α : Type} {p : α → Bool} {l : List α} {k : Nat} (hk : k < l.length) (hn : ∀ j (h : j < l.length), j < k → p l[j] = false) (hp : p l[k] = true) : idxP p l = k := by
  unfold idxP
  have : l.findIdx? p = some k := List.findIdx?_eq_some_iff_getElem.2 ⟨hk, hp, fun j hj => by rw [hn j (by omega) hj]; simp⟩
  rw [this]
theorem idxP_none {α : Type} {p : α → Bool} {l : List α} (hn : ∀ j (h : j < l.length), p l[j] = false) : idxP p l = -1 := by
  unfold idxP
  have : l.findIdx? p = none := List.findIdx?_eq_none_iff.2 fun x hx => by
    obtain ⟨j, hj, rfl⟩ := List.mem_iff_getElem.1 hx
    rw [hn j hj]
  rw [this]

theorem index_ok (l : List ByteArray) (s : ByteArray) : PCall Try.prog 99 [vStrs l, vStr s] (vInt (idxP (fun x => tt (x = s)) l)) := by
  refine PCall.bd Try.func99 rfl (by decide) rfl rfl (fun hbd => ?_)
  have hl : l.length ≤ 140737488355328 := bd_map (hbd 0 (by simp))
  refine PCall.of_fx TTok mixed Try.func99 rfl (by decide) rfl rfl ?_
  conv => whnf
  refine ⟨SExec.loop_p l.length (fun k => ∀ j (h : j < l.length), j < k → tt (l[j] = s) = false) (fun k => ⟨19, [(8, vInt k), (7, vInt l.length), (6, vStrs l), (1, vStr s), (0, vStrs l)], []⟩) (fun j _ h => absurd h (Nat.not_lt_zero _))
    (fun k => Nat.le_refl _) (St.subD_of rfl [] rfl rfl (.cons (.refl _) rfl (.cons (.of_eq (vInt_len ..)) rfl (.cons (.refl _) rfl (.cons (.refl _) rfl (.cons (.refl _) rfl .nil)))))) ?_⟩
  intro k hk hI
  refine fx_sound TTok mixed ?_
  conv => whnf
  refine bsel_intro (fun hlt => ?_) (fun hlt => ?_)
  · have hlt : k < l.length := by simpa using hlt
    conv => whnf
    refine idxStr hlt rfl ?_
    conv => whnf
    refine bsel_intro (fun h1 => ?_) (fun h1 => ?_)
    · have h1 : s = l[k] := strEq_iff.1 (by simpa using h1)
      conv => whnf
      exact retI TTok rfl (idxP_at hlt hI (tt_iff.2 h1.symm)).symm
    · have h1 : s ≠ l[k] := strEq_not.1 (by simpa using h1)
      conv => whnf
      refine ⟨⟨hlt, fun j h hj => ?_⟩, St.subD_of rfl _ rfl rfl (.cons (.of_eq (vInt_succ k (by omega))) rfl (.cons (.refl _) rfl (.cons (.refl _) rfl (.cons (.refl _) rfl (.cons (.refl _) rfl .nil)))))⟩
      by_cases e : j = k
      · subst e; exact tt_not.2 fun h => h1 h.symm
      · exact hI j h (by omega)
  · have hge : l.length ≤ k := by simpa using hlt
    conv => whnf
    exact retI TTok rfl (idxP_none fun j h => hI j h (by omega)).symm
theorem contains_ok (l : List ByteArray) (s : ByteArray) : PCall Try.prog 80 [vStrs l, vStr s] (vBool (tt (s ∈ l))) := by
  refine PCall.of_fx TTok mixed Try.func80 rfl (by decide) rfl rfl ?_
  conv => whnf
  refine (index_ok l s).use (.refl _) ?_
  conv => whnf
  exact retB TTok rfl ((idxP_ge _ _).trans (tt_eq (by rw [List.any_eq_true]; exact ⟨fun ⟨x, hx, e⟩ => (tt_iff.1 e) ▸ hx, fun h => ⟨s, h, tt_iff.2 rfl⟩⟩)))

/-- A test that is a closure, over the caller's own things. -/
theorem indexFunc_ok (f : FuncId) (c0 : V) (cs : List V) (H : List O) (hH : hpLt H.length H = true) (hcap : lts H.length (c0 :: cs) = true) (p : ByteArray → Bool) (l : List ByteArray) (hl : l.length ≤ 140737488355328)
    (hc : ∀ s ∈ l, HCall Try.prog f (vStr s :: c0 :: cs) H (vBool (p s))) : HCall Try.prog 98 [vStrs l, .fn (.func f) [] (c0 :: cs)] H (vInt (idxP p l)) := by
  refine HCall.of_fx TTok mixed Try.func98 rfl (by decide) rfl ?_
  have hf : (V.fn (.func f) [] (c0 :: cs)).lt H.length = true := by (simp only [V.lt, Bool.and_eq_true]; exact ⟨rfl, hcap⟩)
  conv => whnf
  refine ⟨SExec.loop_p l.length (fun k => ∀ j (h : j < l.length), j < k → p l[j] = false) (fun k => ⟨19, [(8, vInt k), (7, vInt l.length), (6, vStrs l), (1, .fn (.func f) [] (c0 :: cs)), (0, vStrs l)], H⟩) (fun j _ h => absurd h (Nat.not_lt_zero _))
    (fun k => Nat.le_refl _) (St.subD_of rfl [] (List.append_nil _).symm hH (.cons (.refl _) rfl (.cons (.of_eq (vInt_len ..)) rfl (.cons (.refl _) rfl (.cons (.refl _) hf (.cons (.refl _) rfl .nil)))))) ?_⟩
  intro k hk hI
  refine fx_sound TTok mixed ?_
  conv => whnf
  refine bsel_intro (fun hlt => ?_) (fun hlt => ?_)
  · have hlt : k < l.length := by simpa using hlt
    conv => whnf
    refine idxStr hlt rfl ?_
    conv => whnf
    refine (hc _ (List.getElem_mem hlt)).use (.refl _) ?_
    conv => whnf
    refine bsel_intro (fun h1 => ?_) (fun h1 => ?_)
    · have h1 : p l[k] = true := by simpa using h1
      conv => whnf
      exact retH (extra := []) TTok rfl (List.append_nil _).symm hH (.of_eq (by rw [idxP_at hlt hI h1]; rfl)) rfl
    · have h1 : p l[k] = false := by simpa using h1
      conv => whnf
      refine ⟨⟨hlt, fun j h hj => ?_⟩, St.subD_of rfl [] (List.append_nil _).symm hH (.cons (.of_eq (vInt_succ k (by omega))) rfl (.cons (.refl _) rfl (.cons (.refl _) rfl (.cons (.refl _) hf (.cons (.refl _) rfl .nil)))))⟩
      by_cases e : j = k
      · subst e; exact h1
      · exact hI j h (by omega)
  · have hge : l.length ≤ k := by simpa using hlt
    conv => whnf
    exact retH (extra := []) TTok rfl (List.append_nil _).symm hH (.of_eq (by rw [idxP_none fun j h => hI j h (by omega)]; rfl)) rfl
theorem containsFunc_ok (f : FuncId) (c0 : V) (cs : List V) (H : List O) (hH : hpLt H.length H = true) (hcap : lts H.length (c0 :: cs) = true) (p : ByteArray → Bool) (l : List ByteArray) (hl : l.length ≤ 140737488355328)
    (hc : ∀ s ∈ l, HCall Try.prog f (vStr s :: c0 :: cs) H (vBool (p s))) : HCall Try.prog 78 [vStrs l, .fn (.func f) [] (c0 :: cs)] H (vBool (l.any p)) := by
  refine HCall.of_fx TTok mixed Try.func78 rfl (by decide) rfl ?_
  conv => whnf
  refine (indexFunc_ok f c0 cs H hH hcap p l hl hc).use (.refl _) ?_
  conv => whnf
  exact retH (extra := []) TTok rfl (List.append_nil _).symm hH (.of_eq (by rw [← idxP_ge]; rfl)) rfl
end Go.Ab
