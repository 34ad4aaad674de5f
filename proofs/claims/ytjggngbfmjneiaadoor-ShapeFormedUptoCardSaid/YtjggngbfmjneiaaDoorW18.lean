import Derived.Test.YtjggngbfmjneiaaDoorW16
import Derived.Test.YtjggngbfmjneiaaDoorPG
set_option linter.unusedVariables false
set_option linter.unusedSimpArgs false
set_option maxRecDepth 4000
namespace Go.Ab
open Go.Proofs

theorem lens_ok (a b : Int) : PCall Tryd.prog 69 [vInt a, vInt b] (vInt (cmpI a b)) := by
  refine PCall.of_fx TTok mixed Tryd.func69 rfl (by decide) rfl rfl ?_
  conv => whnf
  refine bsel_intro (fun h1 => ?_) (fun h1 => ?_)
  · have h1 := dlt h1
    conv => whnf
    exact retI TTok rfl (by rw [cmpI, if_pos h1])
  · have h1 := dge h1
    conv => whnf
    refine bsel_intro (fun h2 => ?_) (fun h2 => ?_)
    · have h2 : b < a := by simpa using h2
      conv => whnf
      exact retI TTok rfl (by rw [cmpI, if_neg (by omega), if_pos h2])
    · have h2 : a ≤ b := by simpa using h2
      conv => whnf
      exact retI TTok rfl (by rw [cmpI, if_neg (by omega), if_neg (by omega)])

theorem rtruth_ok (a b : Bool) : PCall Tryd.prog 32 [vBool a, vBool b] (vInt (truthC a b)) := by
  refine PCall.of_fx TTok mixed Tryd.func32 rfl (by decide) rfl rfl ?_
  conv => whnf
  repeat' (refine bsel_intro (fun _ => ?_) (fun _ => ?_) <;> conv => whnf)
  all_goals exact retI TTok rfl (by simp_all [truthC])

theorem rwords_ok (a b : Ty) : PCall Tryd.prog 30 [vTy a, vTy b] (vInt (orL [truthC a.all b.all, truthC a.null b.null, truthC a.fls b.fls, truthC a.tru b.tru])) := by
  simp only [orL_cons, orL_one]
  refine PCall.of_fx TTok mixed Tryd.func30 rfl (by decide) rfl rfl ?_
  conv => whnf
  refine (rtruth_ok a.all b.all).use (.refl _) ?_
  conv => whnf
  refine bsel_intro (fun h0 => ?_) (fun h0 => ?_)
  case' refine_2 =>
    have h0 : truthC a.all b.all ≠ 0 := by simpa using h0
    conv => whnf
    refine bsel_false (by simpa using h0) ?_
    conv => whnf
    refine bsel_false (by simpa using h0) ?_
    conv => whnf
    exact retI TTok rfl (by rw [if_neg h0])
  have h0 : truthC a.all b.all = 0 := by simpa using h0
  conv => whnf
  refine (rtruth_ok a.null b.null).use (.refl _) ?_
  conv => whnf
  refine bsel_intro (fun h1 => ?_) (fun h1 => ?_)
  case' refine_2 =>
    have h1 : truthC a.null b.null ≠ 0 := by simpa using h1
    conv => whnf
    refine bsel_false (by simpa using h1) ?_
    conv => whnf
    exact retI TTok rfl (by rw [if_pos h0, if_neg h1])
  have h1 : truthC a.null b.null = 0 := by simpa using h1
  conv => whnf
  refine (rtruth_ok a.fls b.fls).use (.refl _) ?_
  conv => whnf
  refine bsel_intro (fun h2 => ?_) (fun h2 => ?_)
  case' refine_2 =>
    have h2 : truthC a.fls b.fls ≠ 0 := by simpa using h2
    conv => whnf
    exact retI TTok rfl (by rw [if_pos h0, if_pos h1, if_neg h2])
  have h2 : truthC a.fls b.fls = 0 := by simpa using h2
  conv => whnf
  refine (rtruth_ok a.tru b.tru).use (.refl _) ?_
  conv => whnf
  exact retI TTok rfl (by rw [if_pos h0, if_pos h1, if_pos h2])

theorem rbounds_ok (a b : ByteArray) (o : Int) (ho : o = 1 ∨ o = -1) (ha : BoundOk a) (hb : BoundOk b) : PCall Tryd.prog 68 [vStr a, vStr b, vInt o] (vInt (boundC o a b)) := by
  refine PCall.of_fx TTok mixed Tryd.func68 rfl (by decide) rfl rfl ?_
  conv => whnf
  refine bsel_intro (fun h1 => ?_) (fun h1 => ?_)
  · have h1 : a = b := strEq_iff.1 h1
    conv => whnf
    exact retI TTok rfl (by rw [boundC, if_pos h1])
  have h1 : a ≠ b := strEq_not.1 h1
  conv => whnf
  refine bsel_intro (fun h2 => ?_) (fun h2 => ?_)
  · have h2 : a = ⟨#[]⟩ := strEq_iff.1 h2
    conv => whnf
    exact retI TTok rfl (by rw [boundC, if_neg h1, if_pos h2])
  have h2 : a ≠ ⟨#[]⟩ := strEq_not.1 h2
  conv => whnf
  refine bsel_intro (fun h3 => ?_) (fun h3 => ?_)
  · have h3 : b = ⟨#[]⟩ := strEq_iff.1 h3
    conv => whnf
    exact retI TTok rfl (by rw [boundC, if_neg h1, if_neg h2, if_pos h3]; rcases ho with rfl | rfl <;> rfl)
  have h3 : b ≠ ⟨#[]⟩ := strEq_not.1 h3
  conv => whnf
  refine (numbers_ok a b (ha.resolve_left h2) (hb.resolve_left h3)).use (.refl _) ?_
  conv => whnf
  exact retI TTok rfl (by rw [boundC, if_neg h1, if_neg h2, if_neg h3])

theorem cmpL_end {α : Type} {c : α → α → Int} {l m : List α} {k : Nat} (hk : k ≤ l.length) (hm : k ≤ m.length) (h : k = l.length ∨ k = m.length) : cmpL c (l.drop k) (m.drop k) = cmpI l.length m.length := by
  unfold cmpI
  by_cases h1 : k < l.length
  · have h2 : k = m.length := by omega
    rw [List.drop_eq_getElem_cons h1, List.drop_eq_nil_of_le (show m.length ≤ k by omega), cmpL, if_neg (by omega), if_pos (by omega)]
  · have h2 : k = l.length := by omega
    by_cases h3 : k < m.length
    · rw [List.drop_eq_getElem_cons h3, List.drop_eq_nil_of_le (show l.length ≤ k by omega), cmpL, if_pos (by omega)]
    · have h4 : k = m.length := by omega
      rw [List.drop_eq_nil_of_le (by omega), List.drop_eq_nil_of_le (by omega), cmpL, if_neg (by omega), if_neg (by omega)]

theorem rtexts_ok (l m : List ByteArray) : PCall Tryd.prog 33 [vStrs l, vStrs m] (vInt (cmpL cmpS l m)) := by
  refine PCall.bd Tryd.func33 rfl (by decide) rfl rfl (fun hbd => ?_)
  have hl : l.length ≤ 140737488355328 := bd_map (hbd 0 (by simp))
  refine PCall.of_fx TTok mixed Tryd.func33 rfl (by decide) rfl rfl ?_
  conv => whnf
  refine ⟨SExec.loop_p l.length (fun k => k ≤ m.length ∧ cmpL cmpS (l.drop k) (m.drop k) = cmpL cmpS l m) (fun k => ⟨36, [(5, vInt k), (1, vStrs m), (0, vStrs l)], []⟩) (by simp)
    (fun k => Nat.le_refl _) (St.subD_of rfl [] rfl rfl (.cons (.refl _) rfl (.cons (.refl _) rfl (.cons (.refl _) rfl .nil)))) ?_⟩
  intro k hk ⟨hkm, hI⟩
  refine fx_sound TTok mixed ?_
  conv => whnf
  refine bsel_intro (fun hlt => ?_) (fun hlt => ?_)
  case' refine_2 =>
    have hge : l.length ≤ k := by simpa using hlt
    conv => whnf
    refine (lens_ok l.length m.length).use (.cons (.of_eq (vInt_len ..)) (.cons (.of_eq (vInt_len ..)) .nil)) ?_
    conv => whnf
    exact retI TTok rfl ((cmpL_end hk hkm (.inl (by omega))).symm.trans hI)
  have hlt : k < l.length := by simpa using hlt
  conv => whnf
  refine bsel_intro (fun hlm => ?_) (fun hlm => ?_)
  case' refine_2 =>
    have hge : m.length ≤ k := by simpa using hlm
    conv => whnf
    refine (lens_ok l.length m.length).use (.cons (.of_eq (vInt_len ..)) (.cons (.of_eq (vInt_len ..)) .nil)) ?_
    conv => whnf
    exact retI TTok rfl ((cmpL_end hk hkm (.inr (by omega))).symm.trans hI)
  have hlm : k < m.length := by simpa using hlm
  rw [List.drop_eq_getElem_cons hlt, List.drop_eq_getElem_cons hlm, cmpL] at hI
  conv => whnf
  (refine ⟨by decide +kernel, ?_⟩; conv => whnf)
  refine idxStr hlt rfl ?_
  conv => whnf
  refine idxStr hlm rfl ?_
  conv => whnf
  refine (texts_ok l[k] m[k]).useQ (.refl _) ?_
  conv => whnf
  refine bsel_intro (fun h0 => ?_) (fun h0 => ?_)
  · have h0 : cmpS l[k] m[k] ≠ 0 := by simpa using h0
    rw [if_neg h0] at hI
    conv => whnf
    exact retI TTok rfl hI
  · have h0 : cmpS l[k] m[k] = 0 := by simpa using h0
    rw [if_pos h0] at hI
    conv => whnf
    exact ⟨⟨hlt, hlm, hI⟩, St.subD_of rfl _ rfl rfl (.cons (.of_eq (vInt_succ k (by omega))) rfl (.cons (.refl _) rfl (.cons (.refl _) rfl .nil)))⟩

theorem robjs_ok (l m : List Ob) (hc : ∀ x ∈ l, ∀ y ∈ m, PCall Tryd.prog 71 [vOb x, vOb y] (vInt (cmpOb x y))) : PCall Tryd.prog 35 [vObs l, vObs m] (vInt (cmpL cmpOb l m)) := by
  refine PCall.bd Tryd.func35 rfl (by decide) rfl rfl (fun hbd => ?_)
  have hl : l.length ≤ 140737488355328 := bd_map (hbd 0 (by simp))
  refine PCall.of_fx TTok mixed Tryd.func35 rfl (by decide) rfl rfl ?_
  conv => whnf
  refine ⟨SExec.loop_p l.length (fun k => k ≤ m.length ∧ cmpL cmpOb (l.drop k) (m.drop k) = cmpL cmpOb l m) (fun k => ⟨36, [(5, vInt k), (1, vObs m), (0, vObs l)], []⟩) (by simp)
    (fun k => Nat.le_refl _) (St.subD_of rfl [] rfl rfl (.cons (.refl _) rfl (.cons (.refl _) rfl (.cons (.refl _) rfl .nil)))) ?_⟩
  intro k hk ⟨hkm, hI⟩
  refine fx_sound TTok mixed ?_
  conv => whnf
  refine bsel_intro (fun hlt => ?_) (fun hlt => ?_)
  case' refine_2 =>
    have hge : l.length ≤ k := by simpa using hlt
    conv => whnf
    refine (lens_ok l.length m.length).use (.cons (.of_eq (vInt_len ..)) (.cons (.of_eq (vInt_len ..)) .nil)) ?_
    conv => whnf
    exact retI TTok rfl ((cmpL_end hk hkm (.inl (by omega))).symm.trans hI)
  have hlt : k < l.length := by simpa using hlt
  conv => whnf
  refine bsel_intro (fun hlm => ?_) (fun hlm => ?_)
  case' refine_2 =>
    have hge : m.length ≤ k := by simpa using hlm
    conv => whnf
    refine (lens_ok l.length m.length).use (.cons (.of_eq (vInt_len ..)) (.cons (.of_eq (vInt_len ..)) .nil)) ?_
    conv => whnf
    exact retI TTok rfl ((cmpL_end hk hkm (.inr (by omega))).symm.trans hI)
  have hlm : k < m.length := by simpa using hlm
  rw [List.drop_eq_getElem_cons hlt, List.drop_eq_getElem_cons hlm, cmpL] at hI
  conv => whnf
  (refine ⟨by decide +kernel, ?_⟩; conv => whnf)
  refine idxOb hlt rfl ?_
  conv => whnf
  refine idxOb hlm rfl ?_
  conv => whnf
  refine (hc _ (List.getElem_mem hlt) _ (List.getElem_mem hlm)).useQ (.refl _) ?_
  conv => whnf
  refine bsel_intro (fun h0 => ?_) (fun h0 => ?_)
  · have h0 : cmpOb l[k] m[k] ≠ 0 := by simpa using h0
    rw [if_neg h0] at hI
    conv => whnf
    exact retI TTok rfl hI
  · have h0 : cmpOb l[k] m[k] = 0 := by simpa using h0
    rw [if_pos h0] at hI
    conv => whnf
    exact ⟨⟨hlt, hlm, hI⟩, St.subD_of rfl _ rfl rfl (.cons (.of_eq (vInt_succ k (by omega))) rfl (.cons (.refl _) rfl (.cons (.refl _) rfl .nil)))⟩

theorem rnums_ok (l m : List Sp) (hp : ∀ x ∈ l, SpOk x) (hq : ∀ x ∈ m, SpOk x) : PCall Tryd.prog 31 [vSps l, vSps m] (vInt (cmpL cmpSp l m)) := by
  refine PCall.bd Tryd.func31 rfl (by decide) rfl rfl (fun hbd => ?_)
  have hl : l.length ≤ 140737488355328 := bd_map (hbd 0 (by simp))
  refine PCall.of_fx TTok mixed Tryd.func31 rfl (by decide) rfl rfl ?_
  conv => whnf
  refine ⟨SExec.loop_p l.length (fun k => k ≤ m.length ∧ cmpL cmpSp (l.drop k) (m.drop k) = cmpL cmpSp l m) (fun k => ⟨51, [(5, vInt k), (1, vSps m), (0, vSps l)], []⟩) (by simp)
    (fun k => Nat.le_refl _) (St.subD_of rfl [] rfl rfl (.cons (.refl _) rfl (.cons (.refl _) rfl (.cons (.refl _) rfl .nil)))) ?_⟩
  intro k hk ⟨hkm, hI⟩
  refine fx_sound TTok mixed ?_
  conv => whnf
  refine bsel_intro (fun hlt => ?_) (fun hlt => ?_)
  case' refine_2 =>
    have hge : l.length ≤ k := by simpa using hlt
    conv => whnf
    refine (lens_ok l.length m.length).use (.cons (.of_eq (vInt_len ..)) (.cons (.of_eq (vInt_len ..)) .nil)) ?_
    conv => whnf
    exact retI TTok rfl ((cmpL_end hk hkm (.inl (by omega))).symm.trans hI)
  have hlt : k < l.length := by simpa using hlt
  conv => whnf
  refine bsel_intro (fun hlm => ?_) (fun hlm => ?_)
  case' refine_2 =>
    have hge : m.length ≤ k := by simpa using hlm
    conv => whnf
    refine (lens_ok l.length m.length).use (.cons (.of_eq (vInt_len ..)) (.cons (.of_eq (vInt_len ..)) .nil)) ?_
    conv => whnf
    exact retI TTok rfl ((cmpL_end hk hkm (.inr (by omega))).symm.trans hI)
  have hlm : k < m.length := by simpa using hlm
  rw [List.drop_eq_getElem_cons hlt, List.drop_eq_getElem_cons hlm, cmpL] at hI
  conv => whnf
  have p1 := hp _ (List.getElem_mem hlt)
  have p2 := hq _ (List.getElem_mem hlm)
  have e1 : cmpSp l[k] m[k] = if boundC (-1) l[k].low m[k].low = 0 then boundC 1 l[k].high m[k].high else boundC (-1) l[k].low m[k].low := by rw [cmpSp, orL_cons, orL_one]
  (refine ⟨by decide +kernel, ?_⟩; conv => whnf)
  refine idxSp hlt rfl ?_
  conv => whnf
  refine idxSp hlm rfl ?_
  conv => whnf
  refine (rbounds_ok l[k].low m[k].low (-1) (.inr rfl) p1.1 p2.1).useQ (.refl _) ?_
  conv => whnf
  refine bsel_intro (fun h1 => ?_) (fun h1 => ?_)
  · have h1 : boundC (-1) l[k].low m[k].low = 0 := by simpa using h1
    rw [if_pos h1] at e1
    conv => whnf
    (refine ⟨by decide +kernel, ?_⟩; conv => whnf)
    refine idxSp hlt rfl ?_
    conv => whnf
    refine idxSp hlm rfl ?_
    conv => whnf
    refine (rbounds_ok l[k].high m[k].high 1 (.inl rfl) p1.2 p2.2).useQ (.refl _) ?_
    conv => whnf
    refine bsel_intro (fun h0 => ?_) (fun h0 => ?_)
    · have h0 : boundC 1 l[k].high m[k].high ≠ 0 := by simpa using h0
      rw [e1, if_neg h0] at hI
      conv => whnf
      exact retI TTok rfl hI
    · have h0 : boundC 1 l[k].high m[k].high = 0 := by simpa using h0
      rw [e1, if_pos h0] at hI
      conv => whnf
      exact ⟨⟨hlt, hlm, hI⟩, St.subD_of rfl _ rfl rfl (.cons (.of_eq (vInt_succ k (by omega))) rfl (.cons (.refl _) rfl (.cons (.refl _) rfl .nil)))⟩
  · have h1 : boundC (-1) l[k].low m[k].low ≠ 0 := by simpa using h1
    rw [if_neg h1] at e1
    rw [e1, if_neg h1] at hI
    conv => whnf
    refine bsel_true (by simpa using h1) ?_
    conv => whnf
    exact retI TTok rfl hI

theorem rarrs_ok (l m : List Ar) (hc : ∀ x ∈ l, ∀ y ∈ m, PCall Tryd.prog 9 [vTy x.item, vTy y.item] (vInt (cmpTy x.item y.item))) : PCall Tryd.prog 34 [vArs l, vArs m] (vInt (cmpL cmpAr l m)) := by
  refine PCall.bd Tryd.func34 rfl (by decide) rfl rfl (fun hbd => ?_)
  have hl : l.length ≤ 140737488355328 := bd_map (hbd 0 (by simp))
  refine PCall.of_fx TTok mixed Tryd.func34 rfl (by decide) rfl rfl ?_
  conv => whnf
  refine ⟨SExec.loop_p l.length (fun k => k ≤ m.length ∧ cmpL cmpAr (l.drop k) (m.drop k) = cmpL cmpAr l m) (fun k => ⟨89, [(5, vInt k), (1, vArs m), (0, vArs l)], []⟩) (by simp)
    (fun k => Nat.le_refl _) (St.subD_of rfl [] rfl rfl (.cons (.refl _) rfl (.cons (.refl _) rfl (.cons (.refl _) rfl .nil)))) ?_⟩
  intro k hk ⟨hkm, hI⟩
  refine fx_sound TTok mixed ?_
  conv => whnf
  refine bsel_intro (fun hlt => ?_) (fun hlt => ?_)
  case' refine_2 =>
    have hge : l.length ≤ k := by simpa using hlt
    conv => whnf
    refine (lens_ok l.length m.length).use (.cons (.of_eq (vInt_len ..)) (.cons (.of_eq (vInt_len ..)) .nil)) ?_
    conv => whnf
    exact retI TTok rfl ((cmpL_end hk hkm (.inl (by omega))).symm.trans hI)
  have hlt : k < l.length := by simpa using hlt
  conv => whnf
  refine bsel_intro (fun hlm => ?_) (fun hlm => ?_)
  case' refine_2 =>
    have hge : m.length ≤ k := by simpa using hlm
    conv => whnf
    refine (lens_ok l.length m.length).use (.cons (.of_eq (vInt_len ..)) (.cons (.of_eq (vInt_len ..)) .nil)) ?_
    conv => whnf
    exact retI TTok rfl ((cmpL_end hk hkm (.inr (by omega))).symm.trans hI)
  have hlm : k < m.length := by simpa using hlm
  rw [List.drop_eq_getElem_cons hlt, List.drop_eq_getElem_cons hlm, cmpL] at hI
  conv => whnf
  have e1 : cmpAr l[k] m[k] = if cmpI l[k].min m[k].min = 0 then (if mostC l[k].max m[k].max = 0 then cmpTy l[k].item m[k].item else mostC l[k].max m[k].max) else cmpI l[k].min m[k].min := by rw [cmpAr_eq, orL_cons, orL_cons, orL_one]
  (refine ⟨by decide +kernel, ?_⟩; conv => whnf)
  refine idxAr hlt rfl ?_
  conv => whnf
  refine idxAr hlm rfl ?_
  conv => whnf
  refine (lens_ok l[k].min m[k].min).useQ (.refl _) ?_
  conv => whnf
  (refine ⟨by decide +kernel, ?_⟩; conv => whnf)
  refine bsel_intro (fun h1 => ?_) (fun h1 => ?_)
  case' refine_2 =>
    have h1 : cmpI l[k].min m[k].min ≠ 0 := by simpa using h1
    rw [if_neg h1] at e1
    rw [e1, if_neg h1] at hI
    conv => whnf
    refine bsel_false (by simpa using h1) ?_
    conv => whnf
    refine bsel_true (by simpa using h1) ?_
    conv => whnf
    exact retI TTok rfl hI
  have h1 : cmpI l[k].min m[k].min = 0 := by simpa using h1
  rw [if_pos h1] at e1
  conv => whnf
  refine idxAr hlt rfl ?_
  conv => whnf
  refine idxAr hlm rfl ?_
  conv => whnf
  refine bsel_intro (fun h2 => ?_) (fun h2 => ?_)
  · have h2 : l[k].max ≠ m[k].max := by simpa using h2
    conv => whnf
    refine idxAr hlt rfl ?_
    conv => whnf
    refine bsel_intro (fun h3 => ?_) (fun h3 => ?_)
    · have h3 : l[k].max < 0 := by simpa using h3
      conv => whnf
      refine retI TTok rfl (Eq.trans ?_ hI)
      have e2 : mostC l[k].max m[k].max = 1 := by rw [mostC, if_neg h2, if_pos h3]
      rw [e2, if_neg (by decide)] at e1
      rw [e1, if_neg (by decide)]
    have h3 : ¬ l[k].max < 0 := by have := dge h3; omega
    conv => whnf
    refine idxAr hlm rfl ?_
    conv => whnf
    refine bsel_intro (fun h4 => ?_) (fun h4 => ?_)
    · have h4 : m[k].max < 0 := by simpa using h4
      conv => whnf
      refine retI TTok rfl (Eq.trans ?_ hI)
      have e2 : mostC l[k].max m[k].max = -1 := by rw [mostC, if_neg h2, if_neg h3, if_pos h4]
      rw [e2, if_neg (by decide)] at e1
      rw [e1, if_neg (by decide)]
    have h4 : ¬ m[k].max < 0 := by have := dge h4; omega
    conv => whnf
    (refine ⟨by decide +kernel, ?_⟩; conv => whnf)
    refine idxAr hlt rfl ?_
    conv => whnf
    refine idxAr hlm rfl ?_
    conv => whnf
    refine (lens_ok l[k].max m[k].max).useQ (.refl _) ?_
    conv => whnf
    refine retI TTok rfl (Eq.trans ?_ hI)
    have e2 : mostC l[k].max m[k].max = cmpI l[k].max m[k].max := by rw [mostC, if_neg h2, if_neg h3, if_neg h4]
    have e3 : cmpI l[k].max m[k].max ≠ 0 := fun k0 => h2 (int_TO.eq _ _ trivial trivial k0)
    rw [e2, if_neg e3] at e1
    rw [e1, if_neg e3]
  · have h2 : l[k].max = m[k].max := by simpa using h2
    have e2 : mostC l[k].max m[k].max = 0 := by rw [mostC, if_pos h2]
    rw [if_pos e2] at e1
    rw [e1] at hI
    conv => whnf
    refine bsel_true (by simpa using h1) ?_
    conv => whnf
    (refine ⟨by decide +kernel, ?_⟩; conv => whnf)
    refine idxAr hlt rfl ?_
    conv => whnf
    refine idxAr hlm rfl ?_
    conv => whnf
    refine (hc _ (List.getElem_mem hlt) _ (List.getElem_mem hlm)).useQ (.refl _) ?_
    conv => whnf
    refine bsel_intro (fun h0 => ?_) (fun h0 => ?_)
    · have h0 : cmpTy l[k].item m[k].item ≠ 0 := by simpa using h0
      rw [if_neg h0] at hI
      conv => whnf
      exact retI TTok rfl hI
    · have h0 : cmpTy l[k].item m[k].item = 0 := by simpa using h0
      rw [if_pos h0] at hI
      conv => whnf
      exact ⟨⟨hlt, hlm, hI⟩, St.subD_of rfl _ rfl rfl (.cons (.of_eq (vInt_succ k (by omega))) rfl (.cons (.refl _) rfl (.cons (.refl _) rfl .nil)))⟩

end Go.Ab
