import Derived.Test.YtjggngbfmjneiaaDoorW15
set_option linter.unusedVariables false
set_option linter.unusedSimpArgs false
set_option maxRecDepth 4000
namespace Go.Ab
open Go.Proofs

theorem same_next {α : Type} {l m : List α} {k : Nat} (h1 : l.length = m.length) (hlt : k < l.length) (hI : ∀ j (h : j < l.length) (h' : j < m.length), j < k → l[j] = m[j]) (e : l[k] = m[k]'(by omega)) : ∀ j (h : j < l.length) (h' : j < m.length), j < k + 1 → l[j] = m[j] := fun j h h' hj => by
  by_cases ej : j = k
  · subst ej; exact e
  · exact hI j h h' (by omega)

theorem sameStrs_ok (l m : List ByteArray) : PCall Tryd.prog 46 [vStrs l, vStrs m] (vBool (tt (l = m))) := by
  refine PCall.bd Tryd.func46 rfl (by decide) rfl rfl (fun hbd => ?_)
  have hl : l.length ≤ 140737488355328 := bd_map (hbd 0 (by simp))
  refine PCall.of_fx TTok mixed Tryd.func46 rfl (by decide) rfl rfl ?_
  conv => whnf
  refine bsel_intro (fun h1 => ?_) (fun h1 => ?_)
  · have h1 : l.length ≠ m.length := by simp [ofNat_cast] at h1; omega
    conv => whnf
    exact retB TTok rfl (tt_f fun e => h1 (by rw [e]))
  have h1 : l.length = m.length := by simp [ofNat_cast] at h1; omega
  conv => whnf
  refine ⟨SExec.loop_p l.length (fun k => ∀ j (h : j < l.length) (h' : j < m.length), j < k → l[j] = m[j]) (fun k => ⟨26, [(5, vInt k), (1, vStrs m), (0, vStrs l)], []⟩) (fun j _ _ h => absurd h (Nat.not_lt_zero _))
    (fun k => Nat.le_refl _) (St.subD_of rfl [] rfl rfl (.cons (.refl _) rfl (.cons (.refl _) rfl (.cons (.refl _) rfl .nil)))) ?_⟩
  intro k hk hI
  refine fx_sound TTok mixed ?_
  conv => whnf
  refine bsel_intro (fun hlt => ?_) (fun hlt => ?_)
  · have hlt : k < l.length := by simpa using hlt
    have hlm : k < m.length := by omega
    conv => whnf
    (refine ⟨by decide +kernel, ?_⟩; conv => whnf)
    refine idxStr hlt rfl ?_
    conv => whnf
    refine idxStr hlm rfl ?_
    conv => whnf
    refine bsel_intro (fun hn => ?_) (fun hn => ?_)
    · have hn : l[k] ≠ m[k] := strEq_not.1 (by simpa using hn)
      conv => whnf
      exact retB TTok rfl (tt_f fun e => hn (by subst e; rfl))
    · have hn : l[k] = m[k] := strEq_iff.1 (by simpa using hn)
      conv => whnf
      exact ⟨⟨hlt, same_next h1 hlt hI hn⟩, St.subD_of rfl _ rfl rfl (.cons (.of_eq (vInt_succ k (by omega))) rfl (.cons (.refl _) rfl (.cons (.refl _) rfl .nil)))⟩
  · have hge : l.length ≤ k := by simpa using hlt
    conv => whnf
    exact retB TTok rfl (tt_t (List.ext_getElem h1 fun i h h' => hI i h h' (by omega)))

theorem sameBools_ok (l m : List Bool) : PCall Tryd.prog 100 [vBools l, vBools m] (vBool (tt (l = m))) := by
  refine PCall.bd Tryd.func100 rfl (by decide) rfl rfl (fun hbd => ?_)
  have hl : l.length ≤ 140737488355328 := bd_map (hbd 0 (by simp))
  refine PCall.of_fx TTok mixed Tryd.func100 rfl (by decide) rfl rfl ?_
  conv => whnf
  refine bsel_intro (fun h1 => ?_) (fun h1 => ?_)
  · have h1 : l.length ≠ m.length := by simp [ofNat_cast] at h1; omega
    conv => whnf
    exact retB TTok rfl (tt_f fun e => h1 (by rw [e]))
  have h1 : l.length = m.length := by simp [ofNat_cast] at h1; omega
  conv => whnf
  refine ⟨SExec.loop_p l.length (fun k => ∀ j (h : j < l.length) (h' : j < m.length), j < k → l[j] = m[j]) (fun k => ⟨26, [(5, vInt k), (1, vBools m), (0, vBools l)], []⟩) (fun j _ _ h => absurd h (Nat.not_lt_zero _))
    (fun k => Nat.le_refl _) (St.subD_of rfl [] rfl rfl (.cons (.refl _) rfl (.cons (.refl _) rfl (.cons (.refl _) rfl .nil)))) ?_⟩
  intro k hk hI
  refine fx_sound TTok mixed ?_
  conv => whnf
  refine bsel_intro (fun hlt => ?_) (fun hlt => ?_)
  · have hlt : k < l.length := by simpa using hlt
    have hlm : k < m.length := by omega
    conv => whnf
    (refine ⟨by decide +kernel, ?_⟩; conv => whnf)
    refine idxBool hlt rfl ?_
    conv => whnf
    refine idxBool hlm rfl ?_
    conv => whnf
    refine bsel_intro (fun hn => ?_) (fun hn => ?_)
    · have hn : l[k] ≠ m[k] := by simpa using hn
      conv => whnf
      exact retB TTok rfl (tt_f fun e => hn (by subst e; rfl))
    · have hn : l[k] = m[k] := by simpa using hn
      conv => whnf
      exact ⟨⟨hlt, same_next h1 hlt hI hn⟩, St.subD_of rfl _ rfl rfl (.cons (.of_eq (vInt_succ k (by omega))) rfl (.cons (.refl _) rfl (.cons (.refl _) rfl .nil)))⟩
  · have hge : l.length ≤ k := by simpa using hlt
    conv => whnf
    exact retB TTok rfl (tt_t (List.ext_getElem h1 fun i h h' => hI i h h' (by omega)))

theorem sameSps_ok (l m : List Sp) (hc : ∀ x ∈ l, ∀ y ∈ m, PCall Tryd.prog 78 [vSp x, vSp y] (vBool (tt (x = y)))) : PCall Tryd.prog 45 [vSps l, vSps m] (vBool (tt (l = m))) := by
  refine PCall.bd Tryd.func45 rfl (by decide) rfl rfl (fun hbd => ?_)
  have hl : l.length ≤ 140737488355328 := bd_map (hbd 0 (by simp))
  refine PCall.of_fx TTok mixed Tryd.func45 rfl (by decide) rfl rfl ?_
  conv => whnf
  refine bsel_intro (fun h1 => ?_) (fun h1 => ?_)
  · have h1 : l.length ≠ m.length := by simp [ofNat_cast] at h1; omega
    conv => whnf
    exact retB TTok rfl (tt_f fun e => h1 (by rw [e]))
  have h1 : l.length = m.length := by simp [ofNat_cast] at h1; omega
  conv => whnf
  refine ⟨SExec.loop_p l.length (fun k => ∀ j (h : j < l.length) (h' : j < m.length), j < k → l[j] = m[j]) (fun k => ⟨27, [(5, vInt k), (1, vSps m), (0, vSps l)], []⟩) (fun j _ _ h => absurd h (Nat.not_lt_zero _))
    (fun k => Nat.le_refl _) (St.subD_of rfl [] rfl rfl (.cons (.refl _) rfl (.cons (.refl _) rfl (.cons (.refl _) rfl .nil)))) ?_⟩
  intro k hk hI
  refine fx_sound TTok mixed ?_
  conv => whnf
  refine bsel_intro (fun hlt => ?_) (fun hlt => ?_)
  · have hlt : k < l.length := by simpa using hlt
    have hlm : k < m.length := by omega
    conv => whnf
    (refine ⟨by decide +kernel, ?_⟩; conv => whnf)
    refine idxSp hlt rfl ?_
    conv => whnf
    refine idxSp hlm rfl ?_
    conv => whnf
    refine (hc _ (List.getElem_mem hlt) _ (List.getElem_mem hlm)).useQ (.refl _) ?_
    conv => whnf
    refine bsel_intro (fun hn => ?_) (fun hn => ?_)
    · have hn := tt_not.1 (by simpa using hn)
      conv => whnf
      exact retB TTok rfl (tt_f fun e => hn (by subst e; rfl))
    · have hn := tt_iff.1 (by simpa using hn)
      conv => whnf
      exact ⟨⟨hlt, same_next h1 hlt hI hn⟩, St.subD_of rfl _ rfl rfl (.cons (.of_eq (vInt_succ k (by omega))) rfl (.cons (.refl _) rfl (.cons (.refl _) rfl .nil)))⟩
  · have hge : l.length ≤ k := by simpa using hlt
    conv => whnf
    exact retB TTok rfl (tt_t (List.ext_getElem h1 fun i h h' => hI i h h' (by omega)))

theorem sameArs_ok (l m : List Ar) (hc : ∀ x ∈ l, ∀ y ∈ m, PCall Tryd.prog 79 [vAr x, vAr y] (vBool (tt (x = y)))) : PCall Tryd.prog 47 [vArs l, vArs m] (vBool (tt (l = m))) := by
  refine PCall.bd Tryd.func47 rfl (by decide) rfl rfl (fun hbd => ?_)
  have hl : l.length ≤ 140737488355328 := bd_map (hbd 0 (by simp))
  refine PCall.of_fx TTok mixed Tryd.func47 rfl (by decide) rfl rfl ?_
  conv => whnf
  refine bsel_intro (fun h1 => ?_) (fun h1 => ?_)
  · have h1 : l.length ≠ m.length := by simp [ofNat_cast] at h1; omega
    conv => whnf
    exact retB TTok rfl (tt_f fun e => h1 (by rw [e]))
  have h1 : l.length = m.length := by simp [ofNat_cast] at h1; omega
  conv => whnf
  refine ⟨SExec.loop_p l.length (fun k => ∀ j (h : j < l.length) (h' : j < m.length), j < k → l[j] = m[j]) (fun k => ⟨27, [(5, vInt k), (1, vArs m), (0, vArs l)], []⟩) (fun j _ _ h => absurd h (Nat.not_lt_zero _))
    (fun k => Nat.le_refl _) (St.subD_of rfl [] rfl rfl (.cons (.refl _) rfl (.cons (.refl _) rfl (.cons (.refl _) rfl .nil)))) ?_⟩
  intro k hk hI
  refine fx_sound TTok mixed ?_
  conv => whnf
  refine bsel_intro (fun hlt => ?_) (fun hlt => ?_)
  · have hlt : k < l.length := by simpa using hlt
    have hlm : k < m.length := by omega
    conv => whnf
    (refine ⟨by decide +kernel, ?_⟩; conv => whnf)
    refine idxAr hlt rfl ?_
    conv => whnf
    refine idxAr hlm rfl ?_
    conv => whnf
    refine (hc _ (List.getElem_mem hlt) _ (List.getElem_mem hlm)).useQ (.refl _) ?_
    conv => whnf
    refine bsel_intro (fun hn => ?_) (fun hn => ?_)
    · have hn := tt_not.1 (by simpa using hn)
      conv => whnf
      exact retB TTok rfl (tt_f fun e => hn (by subst e; rfl))
    · have hn := tt_iff.1 (by simpa using hn)
      conv => whnf
      exact ⟨⟨hlt, same_next h1 hlt hI hn⟩, St.subD_of rfl _ rfl rfl (.cons (.of_eq (vInt_succ k (by omega))) rfl (.cons (.refl _) rfl (.cons (.refl _) rfl .nil)))⟩
  · have hge : l.length ≤ k := by simpa using hlt
    conv => whnf
    exact retB TTok rfl (tt_t (List.ext_getElem h1 fun i h h' => hI i h h' (by omega)))

theorem sameObs_ok (l m : List Ob) (hc : ∀ x ∈ l, ∀ y ∈ m, PCall Tryd.prog 80 [vOb x, vOb y] (vBool (tt (x = y)))) : PCall Tryd.prog 48 [vObs l, vObs m] (vBool (tt (l = m))) := by
  refine PCall.bd Tryd.func48 rfl (by decide) rfl rfl (fun hbd => ?_)
  have hl : l.length ≤ 140737488355328 := bd_map (hbd 0 (by simp))
  refine PCall.of_fx TTok mixed Tryd.func48 rfl (by decide) rfl rfl ?_
  conv => whnf
  refine bsel_intro (fun h1 => ?_) (fun h1 => ?_)
  · have h1 : l.length ≠ m.length := by simp [ofNat_cast] at h1; omega
    conv => whnf
    exact retB TTok rfl (tt_f fun e => h1 (by rw [e]))
  have h1 : l.length = m.length := by simp [ofNat_cast] at h1; omega
  conv => whnf
  refine ⟨SExec.loop_p l.length (fun k => ∀ j (h : j < l.length) (h' : j < m.length), j < k → l[j] = m[j]) (fun k => ⟨27, [(5, vInt k), (1, vObs m), (0, vObs l)], []⟩) (fun j _ _ h => absurd h (Nat.not_lt_zero _))
    (fun k => Nat.le_refl _) (St.subD_of rfl [] rfl rfl (.cons (.refl _) rfl (.cons (.refl _) rfl (.cons (.refl _) rfl .nil)))) ?_⟩
  intro k hk hI
  refine fx_sound TTok mixed ?_
  conv => whnf
  refine bsel_intro (fun hlt => ?_) (fun hlt => ?_)
  · have hlt : k < l.length := by simpa using hlt
    have hlm : k < m.length := by omega
    conv => whnf
    (refine ⟨by decide +kernel, ?_⟩; conv => whnf)
    refine idxOb hlt rfl ?_
    conv => whnf
    refine idxOb hlm rfl ?_
    conv => whnf
    refine (hc _ (List.getElem_mem hlt) _ (List.getElem_mem hlm)).useQ (.refl _) ?_
    conv => whnf
    refine bsel_intro (fun hn => ?_) (fun hn => ?_)
    · have hn := tt_not.1 (by simpa using hn)
      conv => whnf
      exact retB TTok rfl (tt_f fun e => hn (by subst e; rfl))
    · have hn := tt_iff.1 (by simpa using hn)
      conv => whnf
      exact ⟨⟨hlt, same_next h1 hlt hI hn⟩, St.subD_of rfl _ rfl rfl (.cons (.of_eq (vInt_succ k (by omega))) rfl (.cons (.refl _) rfl (.cons (.refl _) rfl .nil)))⟩
  · have hge : l.length ≤ k := by simpa using hlt
    conv => whnf
    exact retB TTok rfl (tt_t (List.ext_getElem h1 fun i h h' => hI i h h' (by omega)))

theorem sameTys_ok (l m : List Ty) (hc : ∀ x ∈ l, ∀ y ∈ m, PCall Tryd.prog 12 [vTy x, vTy y] (vBool (tt (x = y)))) : PCall Tryd.prog 99 [vTys l, vTys m] (vBool (tt (l = m))) := by
  refine PCall.bd Tryd.func99 rfl (by decide) rfl rfl (fun hbd => ?_)
  have hl : l.length ≤ 140737488355328 := bd_map (hbd 0 (by simp))
  refine PCall.of_fx TTok mixed Tryd.func99 rfl (by decide) rfl rfl ?_
  conv => whnf
  refine bsel_intro (fun h1 => ?_) (fun h1 => ?_)
  · have h1 : l.length ≠ m.length := by simp [ofNat_cast] at h1; omega
    conv => whnf
    exact retB TTok rfl (tt_f fun e => h1 (by rw [e]))
  have h1 : l.length = m.length := by simp [ofNat_cast] at h1; omega
  conv => whnf
  refine ⟨SExec.loop_p l.length (fun k => ∀ j (h : j < l.length) (h' : j < m.length), j < k → l[j] = m[j]) (fun k => ⟨27, [(5, vInt k), (1, vTys m), (0, vTys l)], []⟩) (fun j _ _ h => absurd h (Nat.not_lt_zero _))
    (fun k => Nat.le_refl _) (St.subD_of rfl [] rfl rfl (.cons (.refl _) rfl (.cons (.refl _) rfl (.cons (.refl _) rfl .nil)))) ?_⟩
  intro k hk hI
  refine fx_sound TTok mixed ?_
  conv => whnf
  refine bsel_intro (fun hlt => ?_) (fun hlt => ?_)
  · have hlt : k < l.length := by simpa using hlt
    have hlm : k < m.length := by omega
    conv => whnf
    (refine ⟨by decide +kernel, ?_⟩; conv => whnf)
    refine idxTy hlt rfl ?_
    conv => whnf
    refine idxTy hlm rfl ?_
    conv => whnf
    refine (hc _ (List.getElem_mem hlt) _ (List.getElem_mem hlm)).useQ (.refl _) ?_
    conv => whnf
    refine bsel_intro (fun hn => ?_) (fun hn => ?_)
    · have hn := tt_not.1 (by simpa using hn)
      conv => whnf
      exact retB TTok rfl (tt_f fun e => hn (by subst e; rfl))
    · have hn := tt_iff.1 (by simpa using hn)
      conv => whnf
      exact ⟨⟨hlt, same_next h1 hlt hI hn⟩, St.subD_of rfl _ rfl rfl (.cons (.of_eq (vInt_succ k (by omega))) rfl (.cons (.refl _) rfl (.cons (.refl _) rfl .nil)))⟩
  · have hge : l.length ≤ k := by simpa using hlt
    conv => whnf
    exact retB TTok rfl (tt_t (List.ext_getElem h1 fun i h h' => hI i h h' (by omega)))

theorem sameSp_ok (a b : Sp) : PCall Tryd.prog 78 [vSp a, vSp b] (vBool (tt (a = b))) := by
  refine PCall.of_fx TTok mixed Tryd.func78 rfl (by decide) rfl rfl ?_
  conv => whnf
  refine bsel_intro (fun h1 => ?_) (fun h1 => ?_)
  case' refine_2 =>
    have h1 : a.low ≠ b.low := strEq_not.1 (by simpa using h1)
    conv => whnf
    exact retB TTok rfl (tt_f fun e => h1 (by rw [e]))
  have h1 : a.low = b.low := strEq_iff.1 (by simpa using h1)
  conv => whnf
  refine bsel_intro (fun h2 => ?_) (fun h2 => ?_)
  · have h2 : a.high ≠ b.high := strEq_not.1 (by simpa using h2)
    conv => whnf
    exact retB TTok rfl (tt_f fun e => h2 (by rw [e]))
  have h2 : a.high = b.high := strEq_iff.1 (by simpa using h2)
  conv => whnf
  exact retB TTok rfl (tt_t (by cases a; cases b; simp_all))

theorem sameAr_ok (a b : Ar) (hc : PCall Tryd.prog 12 [vTy a.item, vTy b.item] (vBool (tt (a.item = b.item)))) : PCall Tryd.prog 79 [vAr a, vAr b] (vBool (tt (a = b))) := by
  refine PCall.of_fx TTok mixed Tryd.func79 rfl (by decide) rfl rfl ?_
  conv => whnf
  refine bsel_intro (fun h1 => ?_) (fun h1 => ?_)
  case' refine_2 =>
    have h1 : a.min ≠ b.min := by simpa using h1
    conv => whnf
    exact retB TTok rfl (tt_f fun e => h1 (by rw [e]))
  have h1 : a.min = b.min := by simpa using h1
  conv => whnf
  refine bsel_intro (fun h2 => ?_) (fun h2 => ?_)
  · have h2 : a.max ≠ b.max := by simpa using h2
    conv => whnf
    exact retB TTok rfl (tt_f fun e => h2 (by rw [e]))
  have h2 : a.max = b.max := by simpa using h2
  conv => whnf
  refine hc.use (.refl _) ?_
  conv => whnf
  refine bsel_intro (fun h3 => ?_) (fun h3 => ?_)
  · have h3 := tt_not.1 (by simpa using h3)
    conv => whnf
    exact retB TTok rfl (tt_f fun e => h3 (by rw [e]))
  have h3 := tt_iff.1 (by simpa using h3)
  conv => whnf
  exact retB TTok rfl (tt_t (by cases a; cases b; simp_all [Ar.min, Ar.max, Ar.item]))

theorem sameOb_ok (a b : Ob) (hc : PCall Tryd.prog 12 [vTy a.rest, vTy b.rest] (vBool (tt (a.rest = b.rest)))) (hf : ∀ x ∈ a.fields, ∀ y ∈ b.fields, PCall Tryd.prog 12 [vTy x, vTy y] (vBool (tt (x = y)))) : PCall Tryd.prog 80 [vOb a, vOb b] (vBool (tt (a = b))) := by
  refine PCall.of_fx TTok mixed Tryd.func80 rfl (by decide) rfl rfl ?_
  conv => whnf
  refine (sameStrs_ok a.names b.names).use (.refl _) ?_
  conv => whnf
  refine bsel_intro (fun h1 => ?_) (fun h1 => ?_)
  · have h1 := tt_not.1 (by simpa using h1)
    conv => whnf
    exact retB TTok rfl (tt_f fun e => h1 (by rw [e]))
  have h1 := tt_iff.1 (by simpa using h1)
  conv => whnf
  refine (sameTys_ok a.fields b.fields hf).use (.refl _) ?_
  conv => whnf
  refine bsel_intro (fun h2 => ?_) (fun h2 => ?_)
  · have h2 := tt_not.1 (by simpa using h2)
    conv => whnf
    exact retB TTok rfl (tt_f fun e => h2 (by rw [e]))
  have h2 := tt_iff.1 (by simpa using h2)
  conv => whnf
  refine (sameBools_ok a.must b.must).use (.refl _) ?_
  conv => whnf
  refine bsel_intro (fun h3 => ?_) (fun h3 => ?_)
  · have h3 := tt_not.1 (by simpa using h3)
    conv => whnf
    exact retB TTok rfl (tt_f fun e => h3 (by rw [e]))
  have h3 := tt_iff.1 (by simpa using h3)
  conv => whnf
  refine hc.use (.refl _) ?_
  conv => whnf
  refine bsel_intro (fun h4 => ?_) (fun h4 => ?_)
  · have h4 := tt_not.1 (by simpa using h4)
    conv => whnf
    exact retB TTok rfl (tt_f fun e => h4 (by rw [e]))
  have h4 := tt_iff.1 (by simpa using h4)
  conv => whnf
  exact retB TTok rfl (tt_t (by cases a; cases b; simp_all [Ob.names, Ob.fields, Ob.must, Ob.rest]))

set_option maxHeartbeats 2000000 in
theorem sameTy_ok : ∀ a b : Ty, PCall Tryd.prog 12 [vTy a, vTy b] (vBool (tt (a = b))) := by
  intro a
  induction a using Ty.ind with
  | h a iha iho =>
  intro b
  refine PCall.of_fx TTok mixed Tryd.func12 rfl (by decide) rfl rfl ?_
  conv => whnf
  refine bsel_intro (fun h0 => ?_) (fun h0 => ?_)
  case' refine_2 =>
    have h0 : a.all ≠ b.all := by simpa using h0
    conv => whnf
    exact retB TTok rfl (tt_f fun e => h0 (by rw [e]))
  have h0 : a.all = b.all := by simpa using h0
  conv => whnf
  refine bsel_intro (fun h1 => ?_) (fun h1 => ?_)
  case' refine_2 =>
    have h1 : a.null ≠ b.null := by simpa using h1
    conv => whnf
    exact retB TTok rfl (tt_f fun e => h1 (by rw [e]))
  have h1 : a.null = b.null := by simpa using h1
  conv => whnf
  refine bsel_intro (fun h2 => ?_) (fun h2 => ?_)
  case' refine_2 =>
    have h2 : a.fls ≠ b.fls := by simpa using h2
    conv => whnf
    exact retB TTok rfl (tt_f fun e => h2 (by rw [e]))
  have h2 : a.fls = b.fls := by simpa using h2
  conv => whnf
  refine bsel_intro (fun h3 => ?_) (fun h3 => ?_)
  case' refine_2 =>
    have h3 : a.tru ≠ b.tru := by simpa using h3
    conv => whnf
    exact retB TTok rfl (tt_f fun e => h3 (by rw [e]))
  have h3 : a.tru = b.tru := by simpa using h3
  conv => whnf
  refine bsel_intro (fun h4 => ?_) (fun h4 => ?_)
  · have h4 : a.anyText ≠ b.anyText := by simpa using h4
    conv => whnf
    exact retB TTok rfl (tt_f fun e => h4 (by rw [e]))
  have h4 : a.anyText = b.anyText := by simpa using h4
  conv => whnf
  refine (sameSps_ok a.nums b.nums fun x _ y _ => sameSp_ok x y).use (.refl _) ?_
  conv => whnf
  refine bsel_intro (fun h5 => ?_) (fun h5 => ?_)
  · have h5 := tt_not.1 (by simpa using h5)
    conv => whnf
    exact retB TTok rfl (tt_f fun e => h5 (by rw [e]))
  have h5 := tt_iff.1 (by simpa using h5)
  conv => whnf
  refine (sameStrs_ok a.texts b.texts).use (.refl _) ?_
  conv => whnf
  refine bsel_intro (fun h6 => ?_) (fun h6 => ?_)
  · have h6 := tt_not.1 (by simpa using h6)
    conv => whnf
    exact retB TTok rfl (tt_f fun e => h6 (by rw [e]))
  have h6 := tt_iff.1 (by simpa using h6)
  conv => whnf
  refine (sameArs_ok a.arrays b.arrays fun x hx y _ => sameAr_ok x y (iha x hx _)).use (.refl _) ?_
  conv => whnf
  refine bsel_intro (fun h7 => ?_) (fun h7 => ?_)
  · have h7 := tt_not.1 (by simpa using h7)
    conv => whnf
    exact retB TTok rfl (tt_f fun e => h7 (by rw [e]))
  have h7 := tt_iff.1 (by simpa using h7)
  conv => whnf
  refine (sameObs_ok a.objects b.objects fun x hx y _ => sameOb_ok x y ((iho x hx).1 _) fun u hu v _ => (iho x hx).2 u hu _).use (.refl _) ?_
  conv => whnf
  refine bsel_intro (fun h8 => ?_) (fun h8 => ?_)
  · have h8 := tt_not.1 (by simpa using h8)
    conv => whnf
    exact retB TTok rfl (tt_f fun e => h8 (by rw [e]))
  have h8 := tt_iff.1 (by simpa using h8)
  conv => whnf
  exact retB TTok rfl (tt_t (by cases a; cases b; simp_all [Ty.all, Ty.null, Ty.fls, Ty.tru, Ty.nums, Ty.anyText, Ty.texts, Ty.arrays, Ty.objects]))
end Go.Ab
