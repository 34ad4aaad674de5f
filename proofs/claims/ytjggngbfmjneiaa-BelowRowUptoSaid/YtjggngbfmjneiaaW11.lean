import Derived.Test.YtjggngbfmjneiaaW8
import Derived.Test.YtjggngbfmjneiaaPF
set_option linter.unusedVariables false
set_option linter.unusedSimpArgs false
set_option maxRecDepth 4000
namespace Go.Ab
open Go.Proofs

theorem truth_ok (a b : Bool) : PCall Try.prog 30 [vBool a, vBool b] (vInt (truthC a b)) := by
  refine PCall.of_fx TTok mixed Try.func30 rfl (by decide) rfl rfl ?_
  conv => whnf
  repeat' (refine bsel_intro (fun _ => ?_) (fun _ => ?_) <;> conv => whnf)
  all_goals exact retI TTok rfl (by simp_all [truthC])

theorem or_ok (l : List Int) : PCall Try.prog 29 [vInts l] (vInt (orL l)) := by
  refine PCall.bd Try.func29 rfl (by decide) rfl rfl (fun hbd => ?_)
  have hl : l.length ≤ 140737488355328 := bd_map (hbd 0 (by simp))
  refine PCall.of_fx TTok mixed Try.func29 rfl (by decide) rfl rfl ?_
  conv => whnf
  refine ⟨SExec.loop_p l.length (fun k => orL (l.drop k) = orL l) (fun k => ⟨18, [(8, vInt k), (7, vInt l.length), (6, vInts l), (3, vInt 0)], []⟩) (by simp)
    (fun k => Nat.le_refl _) (St.subD_of rfl [] rfl rfl (.cons (.refl _) rfl (.cons (.of_eq (vInt_len ..)) rfl (.cons (.refl _) rfl (.cons (.refl _) rfl .nil))))) ?_⟩
  intro k hk hI
  refine fx_sound TTok mixed ?_
  conv => whnf
  refine bsel_intro (fun hlt => ?_) (fun hlt => ?_)
  · have hlt := dec_lt hlt
    rw [List.drop_eq_getElem_cons hlt, orL] at hI
    conv => whnf
    refine idxInt hlt rfl ?_
    conv => whnf
    refine bsel_intro (fun h0 => ?_) (fun h0 => ?_)
    · have h0 : l[k] ≠ 0 := by simpa using h0
      rw [if_neg h0] at hI
      conv => whnf
      exact retI TTok rfl hI
    · have h0 : l[k] = 0 := by simpa using h0
      rw [if_pos h0] at hI
      conv => whnf
      exact ⟨⟨hlt, hI⟩, St.subD_of rfl _ rfl rfl (.cons (.of_eq (vInt_succ k (by omega))) rfl (.cons (.refl _) rfl (.cons (.refl _) rfl (.cons (.refl _) rfl .nil))))⟩
  · have hge := dec_ge hlt
    rw [List.drop_eq_nil_of_le hge, orL] at hI
    conv => whnf
    exact retI TTok rfl hI

theorem cfSp (f : FuncId) (c : Sp → Sp → Int) (l m : List (Sp)) (hf : ∀ x ∈ l, ∀ y ∈ m, PCall Try.prog f [vSp x, vSp y] (vInt (c x y))) : PCall Try.prog 31 [vSps l, vSps m, .fn (.func f) [] []] (vInt (cmpL c l m)) := by
  refine PCall.bd Try.func31 rfl (by decide) rfl rfl (fun hbd => ?_)
  have hl : l.length ≤ 140737488355328 := bd_map (hbd 0 (by simp))
  have hm : m.length ≤ 140737488355328 := bd_map (hbd 1 (by simp))
  refine PCall.of_fx TTok mixed Try.func31 rfl (by decide) rfl rfl ?_
  conv => whnf
  refine ⟨SExec.loop_p l.length (fun k => k ≤ m.length ∧ cmpL c (l.drop k) (m.drop k) = cmpL c l m) (fun k => ⟨39, [(13, vInt k), (12, vInt l.length), (11, vSps l), (2, .fn (.func f) [] []), (1, vSps m), (0, vSps l)], []⟩) (by simp)
    (fun k => Nat.le_refl _) (St.subD_of rfl [] rfl rfl (.cons (.refl _) rfl (.cons (.of_eq (vInt_len ..)) rfl (.cons (.refl _) rfl (.cons (.refl _) rfl (.cons (.refl _) rfl (.cons (.refl _) rfl .nil))))))) ?_⟩
  intro k hk ⟨hkm, hI⟩
  refine fx_sound TTok mixed ?_
  conv => whnf
  refine bsel_intro (fun hlt => ?_) (fun hlt => ?_)
  · have hlt := dec_lt hlt
    rw [List.drop_eq_getElem_cons hlt] at hI
    conv => whnf
    refine idxSp hlt rfl ?_
    conv => whnf
    refine bsel_intro (fun hge => ?_) (fun hge => ?_)
    · have hge : m.length ≤ k := by simpa using hge
      rw [List.drop_eq_nil_of_le hge, cmpL] at hI
      conv => whnf
      exact retI TTok rfl hI
    · have hlm : k < m.length := by simpa using hge
      rw [List.drop_eq_getElem_cons hlm, cmpL] at hI
      conv => whnf
      refine idxSp hlm rfl ?_
      conv => whnf
      refine (hf _ (List.getElem_mem hlt) _ (List.getElem_mem hlm)).use (.refl _) ?_
      conv => whnf
      refine bsel_intro (fun h0 => ?_) (fun h0 => ?_)
      · have h0 : c l[k] m[k] ≠ 0 := by simpa using h0
        rw [if_neg h0] at hI
        conv => whnf
        exact retI TTok rfl hI
      · have h0 : c l[k] m[k] = 0 := by simpa using h0
        rw [if_pos h0] at hI
        conv => whnf
        exact ⟨⟨hlt, hlm, hI⟩, St.subD_of rfl _ rfl rfl (.cons (.of_eq (vInt_succ k (by omega))) rfl (.cons (.refl _) rfl (.cons (.refl _) rfl (.cons (.refl _) rfl (.cons (.refl _) rfl (.cons (.refl _) rfl .nil))))))⟩
  · have hge := dec_ge hlt
    obtain rfl : k = l.length := by omega
    rw [List.drop_eq_nil_of_le hge] at hI
    conv => whnf
    refine bsel_intro (fun h1 => ?_) (fun h1 => ?_)
    · have h1 : l.length < m.length := by simpa using h1
      rw [List.drop_eq_getElem_cons h1, cmpL] at hI
      conv => whnf
      exact retI TTok rfl hI
    · have h1 : m.length ≤ l.length := by simpa using h1
      rw [List.drop_eq_nil_of_le h1, cmpL] at hI
      conv => whnf
      exact retI TTok rfl hI

theorem cfAr (f : FuncId) (c : Ar → Ar → Int) (l m : List (Ar)) (hf : ∀ x ∈ l, ∀ y ∈ m, PCall Try.prog f [vAr x, vAr y] (vInt (c x y))) : PCall Try.prog 34 [vArs l, vArs m, .fn (.func f) [] []] (vInt (cmpL c l m)) := by
  refine PCall.bd Try.func34 rfl (by decide) rfl rfl (fun hbd => ?_)
  have hl : l.length ≤ 140737488355328 := bd_map (hbd 0 (by simp))
  have hm : m.length ≤ 140737488355328 := bd_map (hbd 1 (by simp))
  refine PCall.of_fx TTok mixed Try.func34 rfl (by decide) rfl rfl ?_
  conv => whnf
  refine ⟨SExec.loop_p l.length (fun k => k ≤ m.length ∧ cmpL c (l.drop k) (m.drop k) = cmpL c l m) (fun k => ⟨39, [(13, vInt k), (12, vInt l.length), (11, vArs l), (2, .fn (.func f) [] []), (1, vArs m), (0, vArs l)], []⟩) (by simp)
    (fun k => Nat.le_refl _) (St.subD_of rfl [] rfl rfl (.cons (.refl _) rfl (.cons (.of_eq (vInt_len ..)) rfl (.cons (.refl _) rfl (.cons (.refl _) rfl (.cons (.refl _) rfl (.cons (.refl _) rfl .nil))))))) ?_⟩
  intro k hk ⟨hkm, hI⟩
  refine fx_sound TTok mixed ?_
  conv => whnf
  refine bsel_intro (fun hlt => ?_) (fun hlt => ?_)
  · have hlt := dec_lt hlt
    rw [List.drop_eq_getElem_cons hlt] at hI
    conv => whnf
    refine idxAr hlt rfl ?_
    conv => whnf
    refine bsel_intro (fun hge => ?_) (fun hge => ?_)
    · have hge : m.length ≤ k := by simpa using hge
      rw [List.drop_eq_nil_of_le hge, cmpL] at hI
      conv => whnf
      exact retI TTok rfl hI
    · have hlm : k < m.length := by simpa using hge
      rw [List.drop_eq_getElem_cons hlm, cmpL] at hI
      conv => whnf
      refine idxAr hlm rfl ?_
      conv => whnf
      refine (hf _ (List.getElem_mem hlt) _ (List.getElem_mem hlm)).use (.refl _) ?_
      conv => whnf
      refine bsel_intro (fun h0 => ?_) (fun h0 => ?_)
      · have h0 : c l[k] m[k] ≠ 0 := by simpa using h0
        rw [if_neg h0] at hI
        conv => whnf
        exact retI TTok rfl hI
      · have h0 : c l[k] m[k] = 0 := by simpa using h0
        rw [if_pos h0] at hI
        conv => whnf
        exact ⟨⟨hlt, hlm, hI⟩, St.subD_of rfl _ rfl rfl (.cons (.of_eq (vInt_succ k (by omega))) rfl (.cons (.refl _) rfl (.cons (.refl _) rfl (.cons (.refl _) rfl (.cons (.refl _) rfl (.cons (.refl _) rfl .nil))))))⟩
  · have hge := dec_ge hlt
    obtain rfl : k = l.length := by omega
    rw [List.drop_eq_nil_of_le hge] at hI
    conv => whnf
    refine bsel_intro (fun h1 => ?_) (fun h1 => ?_)
    · have h1 : l.length < m.length := by simpa using h1
      rw [List.drop_eq_getElem_cons h1, cmpL] at hI
      conv => whnf
      exact retI TTok rfl hI
    · have h1 : m.length ≤ l.length := by simpa using h1
      rw [List.drop_eq_nil_of_le h1, cmpL] at hI
      conv => whnf
      exact retI TTok rfl hI

theorem cfOb (f : FuncId) (c : Ob → Ob → Int) (l m : List (Ob)) (hf : ∀ x ∈ l, ∀ y ∈ m, PCall Try.prog f [vOb x, vOb y] (vInt (c x y))) : PCall Try.prog 36 [vObs l, vObs m, .fn (.func f) [] []] (vInt (cmpL c l m)) := by
  refine PCall.bd Try.func36 rfl (by decide) rfl rfl (fun hbd => ?_)
  have hl : l.length ≤ 140737488355328 := bd_map (hbd 0 (by simp))
  have hm : m.length ≤ 140737488355328 := bd_map (hbd 1 (by simp))
  refine PCall.of_fx TTok mixed Try.func36 rfl (by decide) rfl rfl ?_
  conv => whnf
  refine ⟨SExec.loop_p l.length (fun k => k ≤ m.length ∧ cmpL c (l.drop k) (m.drop k) = cmpL c l m) (fun k => ⟨39, [(13, vInt k), (12, vInt l.length), (11, vObs l), (2, .fn (.func f) [] []), (1, vObs m), (0, vObs l)], []⟩) (by simp)
    (fun k => Nat.le_refl _) (St.subD_of rfl [] rfl rfl (.cons (.refl _) rfl (.cons (.of_eq (vInt_len ..)) rfl (.cons (.refl _) rfl (.cons (.refl _) rfl (.cons (.refl _) rfl (.cons (.refl _) rfl .nil))))))) ?_⟩
  intro k hk ⟨hkm, hI⟩
  refine fx_sound TTok mixed ?_
  conv => whnf
  refine bsel_intro (fun hlt => ?_) (fun hlt => ?_)
  · have hlt := dec_lt hlt
    rw [List.drop_eq_getElem_cons hlt] at hI
    conv => whnf
    refine idxOb hlt rfl ?_
    conv => whnf
    refine bsel_intro (fun hge => ?_) (fun hge => ?_)
    · have hge : m.length ≤ k := by simpa using hge
      rw [List.drop_eq_nil_of_le hge, cmpL] at hI
      conv => whnf
      exact retI TTok rfl hI
    · have hlm : k < m.length := by simpa using hge
      rw [List.drop_eq_getElem_cons hlm, cmpL] at hI
      conv => whnf
      refine idxOb hlm rfl ?_
      conv => whnf
      refine (hf _ (List.getElem_mem hlt) _ (List.getElem_mem hlm)).use (.refl _) ?_
      conv => whnf
      refine bsel_intro (fun h0 => ?_) (fun h0 => ?_)
      · have h0 : c l[k] m[k] ≠ 0 := by simpa using h0
        rw [if_neg h0] at hI
        conv => whnf
        exact retI TTok rfl hI
      · have h0 : c l[k] m[k] = 0 := by simpa using h0
        rw [if_pos h0] at hI
        conv => whnf
        exact ⟨⟨hlt, hlm, hI⟩, St.subD_of rfl _ rfl rfl (.cons (.of_eq (vInt_succ k (by omega))) rfl (.cons (.refl _) rfl (.cons (.refl _) rfl (.cons (.refl _) rfl (.cons (.refl _) rfl (.cons (.refl _) rfl .nil))))))⟩
  · have hge := dec_ge hlt
    obtain rfl : k = l.length := by omega
    rw [List.drop_eq_nil_of_le hge] at hI
    conv => whnf
    refine bsel_intro (fun h1 => ?_) (fun h1 => ?_)
    · have h1 : l.length < m.length := by simpa using h1
      rw [List.drop_eq_getElem_cons h1, cmpL] at hI
      conv => whnf
      exact retI TTok rfl hI
    · have h1 : m.length ≤ l.length := by simpa using h1
      rw [List.drop_eq_nil_of_le h1, cmpL] at hI
      conv => whnf
      exact retI TTok rfl hI

theorem cfTy (f : FuncId) (c : Ty → Ty → Int) (l m : List (Ty)) (hf : ∀ x ∈ l, ∀ y ∈ m, PCall Try.prog f [vTy x, vTy y] (vInt (c x y))) : PCall Try.prog 69 [vTys l, vTys m, .fn (.func f) [] []] (vInt (cmpL c l m)) := by
  refine PCall.bd Try.func69 rfl (by decide) rfl rfl (fun hbd => ?_)
  have hl : l.length ≤ 140737488355328 := bd_map (hbd 0 (by simp))
  have hm : m.length ≤ 140737488355328 := bd_map (hbd 1 (by simp))
  refine PCall.of_fx TTok mixed Try.func69 rfl (by decide) rfl rfl ?_
  conv => whnf
  refine ⟨SExec.loop_p l.length (fun k => k ≤ m.length ∧ cmpL c (l.drop k) (m.drop k) = cmpL c l m) (fun k => ⟨39, [(13, vInt k), (12, vInt l.length), (11, vTys l), (2, .fn (.func f) [] []), (1, vTys m), (0, vTys l)], []⟩) (by simp)
    (fun k => Nat.le_refl _) (St.subD_of rfl [] rfl rfl (.cons (.refl _) rfl (.cons (.of_eq (vInt_len ..)) rfl (.cons (.refl _) rfl (.cons (.refl _) rfl (.cons (.refl _) rfl (.cons (.refl _) rfl .nil))))))) ?_⟩
  intro k hk ⟨hkm, hI⟩
  refine fx_sound TTok mixed ?_
  conv => whnf
  refine bsel_intro (fun hlt => ?_) (fun hlt => ?_)
  · have hlt := dec_lt hlt
    rw [List.drop_eq_getElem_cons hlt] at hI
    conv => whnf
    refine idxTy hlt rfl ?_
    conv => whnf
    refine bsel_intro (fun hge => ?_) (fun hge => ?_)
    · have hge : m.length ≤ k := by simpa using hge
      rw [List.drop_eq_nil_of_le hge, cmpL] at hI
      conv => whnf
      exact retI TTok rfl hI
    · have hlm : k < m.length := by simpa using hge
      rw [List.drop_eq_getElem_cons hlm, cmpL] at hI
      conv => whnf
      refine idxTy hlm rfl ?_
      conv => whnf
      refine (hf _ (List.getElem_mem hlt) _ (List.getElem_mem hlm)).use (.refl _) ?_
      conv => whnf
      refine bsel_intro (fun h0 => ?_) (fun h0 => ?_)
      · have h0 : c l[k] m[k] ≠ 0 := by simpa using h0
        rw [if_neg h0] at hI
        conv => whnf
        exact retI TTok rfl hI
      · have h0 : c l[k] m[k] = 0 := by simpa using h0
        rw [if_pos h0] at hI
        conv => whnf
        exact ⟨⟨hlt, hlm, hI⟩, St.subD_of rfl _ rfl rfl (.cons (.of_eq (vInt_succ k (by omega))) rfl (.cons (.refl _) rfl (.cons (.refl _) rfl (.cons (.refl _) rfl (.cons (.refl _) rfl (.cons (.refl _) rfl .nil))))))⟩
  · have hge := dec_ge hlt
    obtain rfl : k = l.length := by omega
    rw [List.drop_eq_nil_of_le hge] at hI
    conv => whnf
    refine bsel_intro (fun h1 => ?_) (fun h1 => ?_)
    · have h1 : l.length < m.length := by simpa using h1
      rw [List.drop_eq_getElem_cons h1, cmpL] at hI
      conv => whnf
      exact retI TTok rfl hI
    · have h1 : m.length ≤ l.length := by simpa using h1
      rw [List.drop_eq_nil_of_le h1, cmpL] at hI
      conv => whnf
      exact retI TTok rfl hI

theorem cfBool (f : FuncId) (c : Bool → Bool → Int) (l m : List (Bool)) (hf : ∀ x ∈ l, ∀ y ∈ m, PCall Try.prog f [vBool x, vBool y] (vInt (c x y))) : PCall Try.prog 68 [vBools l, vBools m, .fn (.func f) [] []] (vInt (cmpL c l m)) := by
  refine PCall.bd Try.func68 rfl (by decide) rfl rfl (fun hbd => ?_)
  have hl : l.length ≤ 140737488355328 := bd_map (hbd 0 (by simp))
  have hm : m.length ≤ 140737488355328 := bd_map (hbd 1 (by simp))
  refine PCall.of_fx TTok mixed Try.func68 rfl (by decide) rfl rfl ?_
  conv => whnf
  refine ⟨SExec.loop_p l.length (fun k => k ≤ m.length ∧ cmpL c (l.drop k) (m.drop k) = cmpL c l m) (fun k => ⟨39, [(13, vInt k), (12, vInt l.length), (11, vBools l), (2, .fn (.func f) [] []), (1, vBools m), (0, vBools l)], []⟩) (by simp)
    (fun k => Nat.le_refl _) (St.subD_of rfl [] rfl rfl (.cons (.refl _) rfl (.cons (.of_eq (vInt_len ..)) rfl (.cons (.refl _) rfl (.cons (.refl _) rfl (.cons (.refl _) rfl (.cons (.refl _) rfl .nil))))))) ?_⟩
  intro k hk ⟨hkm, hI⟩
  refine fx_sound TTok mixed ?_
  conv => whnf
  refine bsel_intro (fun hlt => ?_) (fun hlt => ?_)
  · have hlt := dec_lt hlt
    rw [List.drop_eq_getElem_cons hlt] at hI
    conv => whnf
    refine idxBool hlt rfl ?_
    conv => whnf
    refine bsel_intro (fun hge => ?_) (fun hge => ?_)
    · have hge : m.length ≤ k := by simpa using hge
      rw [List.drop_eq_nil_of_le hge, cmpL] at hI
      conv => whnf
      exact retI TTok rfl hI
    · have hlm : k < m.length := by simpa using hge
      rw [List.drop_eq_getElem_cons hlm, cmpL] at hI
      conv => whnf
      refine idxBool hlm rfl ?_
      conv => whnf
      refine (hf _ (List.getElem_mem hlt) _ (List.getElem_mem hlm)).use (.refl _) ?_
      conv => whnf
      refine bsel_intro (fun h0 => ?_) (fun h0 => ?_)
      · have h0 : c l[k] m[k] ≠ 0 := by simpa using h0
        rw [if_neg h0] at hI
        conv => whnf
        exact retI TTok rfl hI
      · have h0 : c l[k] m[k] = 0 := by simpa using h0
        rw [if_pos h0] at hI
        conv => whnf
        exact ⟨⟨hlt, hlm, hI⟩, St.subD_of rfl _ rfl rfl (.cons (.of_eq (vInt_succ k (by omega))) rfl (.cons (.refl _) rfl (.cons (.refl _) rfl (.cons (.refl _) rfl (.cons (.refl _) rfl (.cons (.refl _) rfl .nil))))))⟩
  · have hge := dec_ge hlt
    obtain rfl : k = l.length := by omega
    rw [List.drop_eq_nil_of_le hge] at hI
    conv => whnf
    refine bsel_intro (fun h1 => ?_) (fun h1 => ?_)
    · have h1 : l.length < m.length := by simpa using h1
      rw [List.drop_eq_getElem_cons h1, cmpL] at hI
      conv => whnf
      exact retI TTok rfl hI
    · have h1 : m.length ≤ l.length := by simpa using h1
      rw [List.drop_eq_nil_of_le h1, cmpL] at hI
      conv => whnf
      exact retI TTok rfl hI
end Go.Ab
