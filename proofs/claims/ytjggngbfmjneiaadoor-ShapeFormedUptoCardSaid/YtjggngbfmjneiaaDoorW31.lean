import Derived.Test.YtjggngbfmjneiaaDoorW30
set_option linter.unusedVariables false
set_option linter.unusedSimpArgs false
set_option maxRecDepth 4000
namespace Go.Ab
open Go.Proofs

theorem all_next {α : Type} {p : α → Prop} {l : List α} {k : Nat} (hlt : k < l.length) (hI : ∀ j (h : j < l.length), j < k → p l[j]) (e : p l[k]) : ∀ j (h : j < l.length), j < k + 1 → p l[j] := fun j h hj => by
  by_cases ej : j = k
  · subst ej; exact e
  · exact hI j h (by omega)

set_option maxHeartbeats 2000000 in
theorem snums_ok (t : Ty) : PCall Tryd.prog 58 [vTy t] (vBool (tt (SpansOk t.nums))) := by
  refine PCall.bd Tryd.func58 rfl (by decide) rfl rfl (fun hbd => ?_)
  have hb := (deep_of (hbd 0 (by simp))).bd.nums
  simp only [maxRows] at hb
  refine PCall.of_fx TTok mixed Tryd.func58 rfl (by decide) rfl rfl ?_
  conv => whnf
  refine ⟨SExec.loop_p t.nums.length (fun k => ∀ j (h : j < t.nums.length), j < k → t.nums[j].Ok) (fun k => ⟨59, [(10, vInt k), (9, vInt t.nums.length), (8, vSps t.nums), (1, .bx 0 0)], [.row 83 (cellsV (vTy t))]⟩) (fun j _ h => absurd h (Nat.not_lt_zero _))
    (fun k => Nat.le_refl _) (St.subD_of rfl [] rfl rfl (.cons (.refl _) rfl (.cons (.of_eq (vInt_len ..)) rfl (.cons (.refl _) rfl (.cons (.refl _) rfl .nil))))) ?_⟩
  intro k hk hI
  refine fx_sound TTok mixed ?_
  conv => whnf
  refine bsel_intro (fun hlt => ?_) (fun hlt => ?_)
  · have hlt : k < t.nums.length := by simpa using hlt
    have hm := List.getElem_mem hlt
    conv => whnf
    refine idxSp hlt rfl ?_
    conv => whnf
    (refine ⟨by decide +kernel, ?_⟩; conv => whnf)
    refine bsel_intro (fun e1 => ?_) (fun e1 => ?_)
    · have e1 : t.nums[k].low ≠ ⟨#[]⟩ := strEq_not.1 (by simpa using e1)
      conv => whnf
      refine (tensFormed_ok t.nums[k].low).useQ (.refl _) ?_
      conv => whnf
      refine bsel_intro (fun e2 => ?_) (fun e2 => ?_)
      · have e2 : t.nums[k].high ≠ ⟨#[]⟩ := strEq_not.1 (by simpa using e2)
        conv => whnf
        refine (tensFormed_ok t.nums[k].high).useQ (.refl _) ?_
        conv => whnf
        refine bsel_intro (fun g1 => ?_) (fun g1 => ?_)
        case' refine_2 =>
          have g1 := tt_not.1 (by simpa using g1)
          conv => whnf
          exact retB TTok rfl (tt_f fun h => g1 ((h.ok _ hm).low.resolve_left e1))
        have g1 : NumOk t.nums[k].low := tt_iff.1 (by simpa using g1)
        conv => whnf
        refine bsel_intro (fun g2 => ?_) (fun g2 => ?_)
        case' refine_2 =>
          have g2 := tt_not.1 (by simpa using g2)
          conv => whnf
          exact retB TTok rfl (tt_f fun h => g2 ((h.ok _ hm).high.resolve_left e2))
        have g2 : NumOk t.nums[k].high := tt_iff.1 (by simpa using g2)
        conv => whnf
        refine bsel_true (by simp [strEq_not.2 e1]) ?_
        conv => whnf
        refine bsel_true (by simp [strEq_not.2 e2]) ?_
        conv => whnf
        refine (worth_ok t.nums[k].low t.nums[k].high g1 g2).use (.refl _) ?_
        conv => whnf
        refine bsel_intro (fun g3 => ?_) (fun g3 => ?_)
        · have g3 : 0 < numCmp t.nums[k].low t.nums[k].high := by simpa using g3
          conv => whnf
          exact retB TTok rfl (tt_f fun h => by have := (h.ok _ hm).order e1 e2; omega)
        have g3 : numCmp t.nums[k].low t.nums[k].high ≤ 0 := by simpa using g3
        conv => whnf
        exact ⟨⟨hlt, all_next (p := Sp.Ok) hlt hI ⟨.inr g1, .inr g2, fun _ _ => g3⟩⟩, St.subD_of rfl _ rfl rfl (.cons (.of_eq (vInt_succ k (by omega))) rfl (.cons (.refl _) rfl (.cons (.refl _) rfl (.cons (.refl _) rfl .nil))))⟩
      · have e2 : t.nums[k].high = ⟨#[]⟩ := strEq_iff.1 (by simpa using e2)
        conv => whnf
        refine bsel_intro (fun g1 => ?_) (fun g1 => ?_)
        case' refine_2 =>
          have g1 := tt_not.1 (by simpa using g1)
          conv => whnf
          exact retB TTok rfl (tt_f fun h => g1 ((h.ok _ hm).low.resolve_left e1))
        have g1 : NumOk t.nums[k].low := tt_iff.1 (by simpa using g1)
        conv => whnf
        refine bsel_true (by simp [strEq_not.2 e1]) ?_
        conv => whnf
        refine bsel_false (by simp [strEq_iff.2 e2]) ?_
        conv => whnf
        exact ⟨⟨hlt, all_next (p := Sp.Ok) hlt hI ⟨.inr g1, .inl e2, fun _ h => absurd e2 h⟩⟩, St.subD_of rfl _ rfl rfl (.cons (.of_eq (vInt_succ k (by omega))) rfl (.cons (.refl _) rfl (.cons (.refl _) rfl (.cons (.refl _) rfl .nil))))⟩
    · have e1 : t.nums[k].low = ⟨#[]⟩ := strEq_iff.1 (by simpa using e1)
      conv => whnf
      refine bsel_intro (fun e2 => ?_) (fun e2 => ?_)
      · have e2 : t.nums[k].high ≠ ⟨#[]⟩ := strEq_not.1 (by simpa using e2)
        conv => whnf
        refine (tensFormed_ok t.nums[k].high).useQ (.refl _) ?_
        conv => whnf
        refine bsel_intro (fun g2 => ?_) (fun g2 => ?_)
        case' refine_2 =>
          have g2 := tt_not.1 (by simpa using g2)
          conv => whnf
          exact retB TTok rfl (tt_f fun h => g2 ((h.ok _ hm).high.resolve_left e2))
        have g2 : NumOk t.nums[k].high := tt_iff.1 (by simpa using g2)
        conv => whnf
        refine bsel_false (by simp [strEq_iff.2 e1]) ?_
        conv => whnf
        exact ⟨⟨hlt, all_next (p := Sp.Ok) hlt hI ⟨.inl e1, .inr g2, fun h => absurd e1 h⟩⟩, St.subD_of rfl _ rfl rfl (.cons (.of_eq (vInt_succ k (by omega))) rfl (.cons (.refl _) rfl (.cons (.refl _) rfl (.cons (.refl _) rfl .nil))))⟩
      · have e2 : t.nums[k].high = ⟨#[]⟩ := strEq_iff.1 (by simpa using e2)
        conv => whnf
        refine bsel_false (by simp [strEq_iff.2 e1]) ?_
        conv => whnf
        exact ⟨⟨hlt, all_next (p := Sp.Ok) hlt hI ⟨.inl e1, .inl e2, fun h => absurd e1 h⟩⟩, St.subD_of rfl _ rfl rfl (.cons (.of_eq (vInt_succ k (by omega))) rfl (.cons (.refl _) rfl (.cons (.refl _) rfl (.cons (.refl _) rfl .nil))))⟩
  · have hge : t.nums.length ≤ k := by simpa using hlt
    conv => whnf
    refine retB TTok rfl (tt_eq (Iff.trans (by simp; omega) (⟨fun h => ⟨h, fun s hs => ?_⟩, fun h => h.len⟩ : t.nums.length ≤ 1 ↔ SpansOk t.nums)))
    obtain ⟨j, hj, rfl⟩ := List.mem_iff_getElem.1 hs
    exact hI j hj (by omega)


set_option maxHeartbeats 2000000 in
theorem sarrays_ok (t : Ty) (hf : ∀ a ∈ t.arrays, PCall Tryd.prog 20 [vTy a.item] (vBool (tt (Formed a.item)))) : PCall Tryd.prog 60 [vTy t] (vBool (tt (ArsOk t.arrays))) := by
  refine PCall.bd Tryd.func60 rfl (by decide) rfl rfl (fun hbd => ?_)
  have hb := (deep_of (hbd 0 (by simp))).bd.arrays
  simp only [maxRows] at hb
  refine PCall.of_fx TTok mixed Tryd.func60 rfl (by decide) rfl rfl ?_
  conv => whnf
  refine ⟨SExec.loop_p t.arrays.length (fun k => ∀ j (h : j < t.arrays.length), j < k → ArOk t.arrays[j] ∧ Formed t.arrays[j].item) (fun k => ⟨52, [(8, vInt k), (7, vInt t.arrays.length), (6, vArs t.arrays), (1, .bx 0 0)], [.row 83 (cellsV (vTy t))]⟩) (fun j _ h => absurd h (Nat.not_lt_zero _))
    (fun k => Nat.le_refl _) (St.subD_of rfl [] rfl rfl (.cons (.refl _) rfl (.cons (.of_eq (vInt_len ..)) rfl (.cons (.refl _) rfl (.cons (.refl _) rfl .nil))))) ?_⟩
  intro k hk hI
  refine fx_sound TTok mixed ?_
  conv => whnf
  refine bsel_intro (fun hlt => ?_) (fun hlt => ?_)
  · have hlt : k < t.arrays.length := by simpa using hlt
    have hm := List.getElem_mem hlt
    conv => whnf
    refine idxAr hlt rfl ?_
    conv => whnf
    (refine ⟨by decide +kernel, ?_⟩; conv => whnf)
    refine bsel_intro (fun h2 => ?_) (fun h2 => ?_)
    case' refine_2 =>
      have h2 : t.arrays[k].min < 0 := by simpa using h2
      conv => whnf
      exact retB TTok rfl (tt_f fun h => by have := (h.arr _ hm).min; omega)
    have h2 : 0 ≤ t.arrays[k].min := by simpa using h2
    conv => whnf
    refine bsel_intro (fun h3 => ?_) (fun h3 => ?_)
    case' refine_2 =>
      have h3 : t.arrays[k].max < -1 := by simpa using h3
      conv => whnf
      exact retB TTok rfl (tt_f fun h => by have := (h.arr _ hm).max; omega)
    have h3 : -1 ≤ t.arrays[k].max := by simpa using h3
    conv => whnf
    refine bsel_intro (fun h4 => ?_) (fun h4 => ?_)
    · have h4 : 0 ≤ t.arrays[k].max := by simpa using h4
      conv => whnf
      refine bsel_intro (fun h5 => ?_) (fun h5 => ?_)
      case' refine_2 =>
        have h5 : t.arrays[k].max < t.arrays[k].min := by simpa using h5
        conv => whnf
        exact retB TTok rfl (tt_f fun h => by have := (h.arr _ hm).le h4; omega)
      have h5 : t.arrays[k].min ≤ t.arrays[k].max := by simpa using h5
      have hle : 0 ≤ t.arrays[k].max → t.arrays[k].min ≤ t.arrays[k].max := fun _ => h5
      conv => whnf
      refine (hf _ hm).useQ (.refl _) ?_
      conv => whnf
      refine bsel_intro (fun h6 => ?_) (fun h6 => ?_)
      case' refine_2 =>
        have h6 := tt_not.1 (by simpa using h6)
        conv => whnf
        exact retB TTok rfl (tt_f fun h => h6 (h.item _ hm))
      have h6 : Formed t.arrays[k].item := tt_iff.1 (by simpa using h6)
      conv => whnf
      refine (snever_ok t.arrays[k].item).useQ (.refl _) ?_
      conv => whnf
      refine bsel_intro (fun h7 => ?_) (fun h7 => ?_)
      · have h7 : tt (Never t.arrays[k].item) ≠ (t.arrays[k].max == 0) := by simpa using h7
        conv => whnf
        exact retB TTok rfl (tt_f fun h => h7 (tt_eq (p := Never t.arrays[k].item) (b := t.arrays[k].max == 0) (by rw [(h.arr _ hm).never]; simp)).symm)
      have h7 : tt (Never t.arrays[k].item) = (t.arrays[k].max == 0) := by simpa using h7
      conv => whnf
      exact ⟨⟨hlt, all_next (p := fun a => ArOk a ∧ Formed a.item) hlt hI ⟨⟨h2, h3, hle, (tt_iff (p := Never t.arrays[k].item)).symm.trans (by rw [h7]; simp)⟩, h6⟩⟩, St.subD_of rfl _ rfl rfl (.cons (.of_eq (vInt_succ k (by omega))) rfl (.cons (.refl _) rfl (.cons (.refl _) rfl (.cons (.refl _) rfl .nil))))⟩
    · have h4 : t.arrays[k].max < 0 := by simpa using h4
      have hle : 0 ≤ t.arrays[k].max → t.arrays[k].min ≤ t.arrays[k].max := fun _ => by omega
      conv => whnf
      refine (hf _ hm).useQ (.refl _) ?_
      conv => whnf
      refine bsel_intro (fun h6 => ?_) (fun h6 => ?_)
      case' refine_2 =>
        have h6 := tt_not.1 (by simpa using h6)
        conv => whnf
        exact retB TTok rfl (tt_f fun h => h6 (h.item _ hm))
      have h6 : Formed t.arrays[k].item := tt_iff.1 (by simpa using h6)
      conv => whnf
      refine (snever_ok t.arrays[k].item).useQ (.refl _) ?_
      conv => whnf
      refine bsel_intro (fun h7 => ?_) (fun h7 => ?_)
      · have h7 : tt (Never t.arrays[k].item) ≠ (t.arrays[k].max == 0) := by simpa using h7
        conv => whnf
        exact retB TTok rfl (tt_f fun h => h7 (tt_eq (p := Never t.arrays[k].item) (b := t.arrays[k].max == 0) (by rw [(h.arr _ hm).never]; simp)).symm)
      have h7 : tt (Never t.arrays[k].item) = (t.arrays[k].max == 0) := by simpa using h7
      conv => whnf
      exact ⟨⟨hlt, all_next (p := fun a => ArOk a ∧ Formed a.item) hlt hI ⟨⟨h2, h3, hle, (tt_iff (p := Never t.arrays[k].item)).symm.trans (by rw [h7]; simp)⟩, h6⟩⟩, St.subD_of rfl _ rfl rfl (.cons (.of_eq (vInt_succ k (by omega))) rfl (.cons (.refl _) rfl (.cons (.refl _) rfl (.cons (.refl _) rfl .nil))))⟩
  · have hge : t.arrays.length ≤ k := by simpa using hlt
    conv => whnf
    refine retB TTok rfl (tt_eq (Iff.trans (by simp; omega) (⟨fun h => ⟨h, fun s hs => ?_, fun s hs => ?_⟩, fun h => h.one⟩ : t.arrays.length ≤ 1 ↔ ArsOk t.arrays)))
    · obtain ⟨j, hj, rfl⟩ := List.mem_iff_getElem.1 hs
      exact (hI j hj (by omega)).1
    · obtain ⟨j, hj, rfl⟩ := List.mem_iff_getElem.1 hs
      exact (hI j hj (by omega)).2


set_option maxHeartbeats 2000000 in
theorem sobjects_ok (t : Ty) (hr : ∀ o ∈ t.objects, PCall Tryd.prog 20 [vTy o.rest] (vBool (tt (Formed o.rest)))) (hf : ∀ o ∈ t.objects, ∀ f ∈ o.fields, PCall Tryd.prog 20 [vTy f] (vBool (tt (Formed f)))) : PCall Tryd.prog 61 [vTy t] (vBool (tt (∀ o ∈ t.objects, ObF o))) := by
  refine PCall.bd Tryd.func61 rfl (by decide) rfl rfl (fun hbd => ?_)
  have hdp := deep_of (hbd 0 (by simp))
  have hb := hdp.bd.objects
  simp only [maxRows] at hb
  refine PCall.of_fx TTok mixed Tryd.func61 rfl (by decide) rfl rfl ?_
  conv => whnf
  refine ⟨SExec.loop_p t.objects.length (fun k => ∀ j (h : j < t.objects.length), j < k → ObF t.objects[j]) (fun k => ⟨66, [(10, vInt k), (9, vInt t.objects.length), (8, vObs t.objects), (1, .bx 0 0)], [.row 83 (cellsV (vTy t))]⟩) (fun j _ h => absurd h (Nat.not_lt_zero _))
    (fun k => Nat.le_refl _) (St.subD_of rfl [] rfl rfl (.cons (.refl _) rfl (.cons (.of_eq (vInt_len ..)) rfl (.cons (.refl _) rfl (.cons (.refl _) rfl .nil))))) ?_⟩
  intro k hk hI
  refine fx_sound TTok mixed ?_
  conv => whnf
  refine bsel_intro (fun hlt => ?_) (fun hlt => ?_)
  · have hlt : k < t.objects.length := by simpa using hlt
    have hm := List.getElem_mem hlt
    have hob := (ob_bd (deep_obj hdp hm)).fields
    simp only [maxRows] at hob
    conv => whnf
    refine idxOb hlt rfl ?_
    conv => whnf
    refine bsel_intro (fun h1 => ?_) (fun h1 => ?_)
    case' refine_2 =>
      have h1 : t.objects[k].names.length ≠ t.objects[k].fields.length := by simp [ofNat_cast] at h1; omega
      conv => whnf
      exact retB TTok rfl (tt_f fun h => h1 (h _ hm).obj.fields)
    have h1 : t.objects[k].names.length = t.objects[k].fields.length := by simp [ofNat_cast] at h1; omega
    conv => whnf
    refine bsel_intro (fun h2 => ?_) (fun h2 => ?_)
    case' refine_2 =>
      have h2 : t.objects[k].names.length ≠ t.objects[k].must.length := by simp [ofNat_cast] at h2; omega
      conv => whnf
      exact retB TTok rfl (tt_f fun h => h2 (h _ hm).obj.must)
    have h2 : t.objects[k].names.length = t.objects[k].must.length := by simp [ofNat_cast] at h2; omega
    conv => whnf
    refine (srise_ok t.objects[k].names).use (.refl _) ?_
    conv => whnf
    refine bsel_intro (fun h3 => ?_) (fun h3 => ?_)
    case' refine_2 =>
      have h3 := tt_not.1 (by simpa using h3)
      conv => whnf
      exact retB TTok rfl (tt_f fun h => h3 (h _ hm).obj.rise)
    have h3 : Rise t.objects[k].names := tt_iff.1 (by simpa using h3)
    conv => whnf
    refine (hr _ hm).use (.refl _) ?_
    conv => whnf
    refine bsel_intro (fun h4 => ?_) (fun h4 => ?_)
    · have h4 := tt_not.1 (by simpa using h4)
      conv => whnf
      exact retB TTok rfl (tt_f fun h => h4 (h _ hm).rest)
    have h4 : Formed t.objects[k].rest := tt_iff.1 (by simpa using h4)
    conv => whnf
    refine ⟨SExec.loop_p t.objects[k].fields.length (fun i => ∀ j (h : j < t.objects[k].fields.length) (h' : j < t.objects[k].must.length), j < i → Formed t.objects[k].fields[j] ∧ (t.objects[k].must[j] = true → ¬Never t.objects[k].fields[j]))
      (fun i => ⟨66, [(45, vInt i), (44, vInt t.objects[k].fields.length), (43, vTys t.objects[k].fields), (4, .bx 1 0), (10, vInt k), (9, vInt t.objects.length), (8, vObs t.objects), (1, .bx 0 0)], [.row 83 (cellsV (vTy t)), .row 70 (cellsV (vOb t.objects[k]))]⟩) (fun j _ _ h => absurd h (Nat.not_lt_zero _))
      (fun k => Nat.le_refl _) (St.subD_of rfl [] rfl rfl (.cons (.refl _) rfl (.cons (.of_eq (vInt_len ..)) rfl (.cons (.refl _) rfl (.cons (.refl _) rfl (.cons (.refl _) rfl (.cons (.refl _) rfl (.cons (.refl _) rfl (.cons (.refl _) rfl .nil))))))))) ?_⟩
    intro i hi hJ
    refine fx_sound TTok mixed ?_
    conv => whnf
    refine bsel_intro (fun hlti => ?_) (fun hlti => ?_)
    · have hlti : i < t.objects[k].fields.length := by simpa using hlti
      have hltm : i < t.objects[k].must.length := by omega
      conv => whnf
      refine idxTy hlti rfl ?_
      conv => whnf
      refine (hf _ hm _ (List.getElem_mem hlti)).use (.refl _) ?_
      conv => whnf
      refine bsel_intro (fun h5 => ?_) (fun h5 => ?_)
      case' refine_2 =>
        have h5 := tt_not.1 (by simpa using h5)
        conv => whnf
        exact retB TTok rfl (tt_f fun h => h5 ((h _ hm).field _ (List.getElem_mem hlti)))
      have h5 : Formed t.objects[k].fields[i] := tt_iff.1 (by simpa using h5)
      conv => whnf
      refine idxBool hltm rfl ?_
      conv => whnf
      refine bsel_intro (fun h6 => ?_) (fun h6 => ?_)
      · have h6 : t.objects[k].must[i] = true := by simpa using h6
        conv => whnf
        refine (snever_ok t.objects[k].fields[i]).use (.refl _) ?_
        conv => whnf
        refine bsel_intro (fun h7 => ?_) (fun h7 => ?_)
        · have h7 : Never t.objects[k].fields[i] := tt_iff.1 (by simpa using h7)
          conv => whnf
          exact retB TTok rfl (tt_f fun h => (h _ hm).obj.never i hlti hltm h6 h7)
        have h7 : ¬Never t.objects[k].fields[i] := tt_not.1 (by simpa using h7)
        conv => whnf
        refine ⟨⟨hlti, fun j h h' hj => ?_⟩, St.subD_of rfl _ rfl rfl (.cons (.of_eq (vInt_succ i (by omega))) rfl (.cons (.refl _) rfl (.cons (.refl _) rfl (.cons (.refl _) rfl (.cons (.refl _) rfl (.cons (.refl _) rfl (.cons (.refl _) rfl (.cons (.refl _) rfl .nil))))))))⟩
        by_cases e : j = i
        · subst e; exact ⟨h5, fun _ => h7⟩
        · exact hJ j h h' (by omega)
      · have h6 : t.objects[k].must[i] = false := by simpa using h6
        conv => whnf
        refine ⟨⟨hlti, fun j h h' hj => ?_⟩, St.subD_of rfl _ rfl rfl (.cons (.of_eq (vInt_succ i (by omega))) rfl (.cons (.refl _) rfl (.cons (.refl _) rfl (.cons (.refl _) rfl (.cons (.refl _) rfl (.cons (.refl _) rfl (.cons (.refl _) rfl (.cons (.refl _) rfl .nil))))))))⟩
        by_cases e : j = i
        · subst e; exact ⟨h5, fun h => by rw [h6] at h; cases h⟩
        · exact hJ j h h' (by omega)
    · have hgei : t.objects[k].fields.length ≤ i := by simpa using hlti
      conv => whnf
      refine ⟨⟨hlt, all_next (p := ObF) hlt hI ⟨⟨h1, h2, h3, fun j h h' hmu => (hJ j h h' (by omega)).2 hmu⟩, h4, fun f hf' => ?_⟩⟩, St.subD_of rfl _ rfl rfl (.cons (.of_eq (vInt_succ k (by omega))) rfl (.cons (.refl _) rfl (.cons (.refl _) rfl (.cons (.refl _) rfl .nil))))⟩
      obtain ⟨j, hj, rfl⟩ := List.mem_iff_getElem.1 hf'
      exact (hJ j hj (by omega) (by omega)).1
  · have hge : t.objects.length ≤ k := by simpa using hlt
    conv => whnf
    refine retB TTok rfl (tt_t fun s hs => ?_)
    obtain ⟨j, hj, rfl⟩ := List.mem_iff_getElem.1 hs
    exact hI j hj (by omega)


set_option maxHeartbeats 2000000 in
theorem sformed_ok : ∀ t : Ty, PCall Tryd.prog 20 [vTy t] (vBool (tt (Formed t))) := by
  intro t
  induction t using Ty.ind with
  | h t iha iho =>
  have H0 := severy_ok t
  have H1 := snums_ok t
  have H2 := stexts_ok t
  have H3 := sarrays_ok t iha
  have H4 := sobjects_ok t (fun o ho => (iho o ho).1) fun o ho => (iho o ho).2
  rw [tt_congr formed_iff]
  refine PCall.of_fx TTok mixed Tryd.func20 rfl (by decide) rfl rfl ?_
  conv => whnf
  refine ⟨SExec.loop_p 5 (fun k => (0 < k → (t.all = true → Bare t)) ∧ (1 < k → SpansOk t.nums) ∧ (2 < k → Rise t.texts ∧ (t.anyText = true → t.texts.length = 0)) ∧ (3 < k → ArsOk t.arrays) ∧ (4 < k → ∀ o ∈ t.objects, ObF o))
    (fun k => ⟨25, [(18, vInt k), (17, .agg [.fn (.func 57) [vTy t] [], .fn (.func 58) [vTy t] [], .fn (.func 59) [vTy t] [], .fn (.func 60) [vTy t] [], .fn (.func 61) [vTy t] []])], [.row 27 (cellsV (vTy t)), .row 83 (cellsV (vTy t))]⟩) (by simp)
    (fun k => Nat.le_refl _) (St.subD_of rfl [] rfl rfl (.cons (.refl _) rfl (.cons (.refl _) rfl .nil))) ?_⟩
  intro k hk ⟨i0, i1, i2, i3, i4⟩
  refine fx_sound TTok mixed ?_
  rcases (show k = 0 ∨ k = 1 ∨ k = 2 ∨ k = 3 ∨ k = 4 ∨ k = 5 by omega) with rfl | rfl | rfl | rfl | rfl | rfl
  · conv => whnf
    refine H0.use (.refl _) ?_
    conv => whnf
    refine bsel_intro (fun g => ?_) (fun g => ?_)
    · have g := tt_not.1 (by simpa only [Bool.not_eq_true'] using g)
      conv => whnf
      exact retB TTok rfl (tt_f fun h => g h.1)
    · have g := tt_iff.1 (by simpa only [Bool.not_eq_false'] using g)
      conv => whnf
      exact ⟨⟨by omega, fun _ => g, fun h => absurd h (by omega), fun h => absurd h (by omega), fun h => absurd h (by omega), fun h => absurd h (by omega)⟩, St.subD_of rfl _ rfl rfl (.cons (.of_eq (vInt_succ 0 (by omega))) rfl (.cons (.refl _) rfl .nil))⟩
  · conv => whnf
    refine H1.use (.refl _) ?_
    conv => whnf
    refine bsel_intro (fun g => ?_) (fun g => ?_)
    · have g := tt_not.1 (by simpa only [Bool.not_eq_true'] using g)
      conv => whnf
      exact retB TTok rfl (tt_f fun h => g h.2.2.2.1)
    · have g := tt_iff.1 (by simpa only [Bool.not_eq_false'] using g)
      conv => whnf
      exact ⟨⟨by omega, fun _ => i0 (by omega), fun _ => g, fun h => absurd h (by omega), fun h => absurd h (by omega), fun h => absurd h (by omega)⟩, St.subD_of rfl _ rfl rfl (.cons (.of_eq (vInt_succ 1 (by omega))) rfl (.cons (.refl _) rfl .nil))⟩
  · conv => whnf
    refine H2.use (.refl _) ?_
    conv => whnf
    refine bsel_intro (fun g => ?_) (fun g => ?_)
    · have g := tt_not.1 (by simpa only [Bool.not_eq_true'] using g)
      conv => whnf
      exact retB TTok rfl (tt_f fun h => g ⟨h.2.1, h.2.2.1⟩)
    · have g := tt_iff.1 (by simpa only [Bool.not_eq_false'] using g)
      conv => whnf
      exact ⟨⟨by omega, fun _ => i0 (by omega), fun _ => i1 (by omega), fun _ => g, fun h => absurd h (by omega), fun h => absurd h (by omega)⟩, St.subD_of rfl _ rfl rfl (.cons (.of_eq (vInt_succ 2 (by omega))) rfl (.cons (.refl _) rfl .nil))⟩
  · conv => whnf
    refine H3.use (.refl _) ?_
    conv => whnf
    refine bsel_intro (fun g => ?_) (fun g => ?_)
    · have g := tt_not.1 (by simpa only [Bool.not_eq_true'] using g)
      conv => whnf
      exact retB TTok rfl (tt_f fun h => g h.2.2.2.2.1)
    · have g := tt_iff.1 (by simpa only [Bool.not_eq_false'] using g)
      conv => whnf
      exact ⟨⟨by omega, fun _ => i0 (by omega), fun _ => i1 (by omega), fun _ => i2 (by omega), fun _ => g, fun h => absurd h (by omega)⟩, St.subD_of rfl _ rfl rfl (.cons (.of_eq (vInt_succ 3 (by omega))) rfl (.cons (.refl _) rfl .nil))⟩
  · conv => whnf
    refine H4.use (.refl _) ?_
    conv => whnf
    refine bsel_intro (fun g => ?_) (fun g => ?_)
    · have g := tt_not.1 (by simpa only [Bool.not_eq_true'] using g)
      conv => whnf
      exact retB TTok rfl (tt_f fun h => g h.2.2.2.2.2)
    · have g := tt_iff.1 (by simpa only [Bool.not_eq_false'] using g)
      conv => whnf
      exact ⟨⟨by omega, fun _ => i0 (by omega), fun _ => i1 (by omega), fun _ => i2 (by omega), fun _ => i3 (by omega), fun _ => g⟩, St.subD_of rfl _ rfl rfl (.cons (.of_eq (vInt_succ 4 (by omega))) rfl (.cons (.refl _) rfl .nil))⟩
  · conv => whnf
    exact retB TTok rfl (tt_t ⟨i0 (by omega), (i2 (by omega)).1, (i2 (by omega)).2, i1 (by omega), i3 (by omega), i4 (by omega)⟩)
end Go.Ab
