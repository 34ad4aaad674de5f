import Derived.Test.YtjggngbfmjneiaaDoorW18
set_option linter.unusedVariables false
set_option linter.unusedSimpArgs false
set_option maxRecDepth 4000
namespace Go.Ab
open Go.Proofs

/-- First c, then what is left of two lists. -/
def restC {α : Type} (e : α → α → Int) (l m : List α) (k : Nat) (c : Int) : Int := if c = 0 then cmpL e (l.drop k) (m.drop k) else c
theorem restC_step {α : Type} {e : α → α → Int} {l m : List α} {k : Nat} (h : k < l.length) (h' : k < m.length) : restC e l m k 0 = restC e l m (k + 1) (e l[k] m[k]) := by
  unfold restC
  rw [if_pos rfl, List.drop_eq_getElem_cons h, List.drop_eq_getElem_cons h', cmpL]
theorem restC_exit {α : Type} {e : α → α → Int} {l m : List α} {k : Nat} {c : Int} (hz : c = 0 → l.length = m.length) (h : l.length ≤ k ∨ m.length ≤ k ∨ c ≠ 0) : restC e l m k c = c := by
  unfold restC
  split
  · rename_i h0
    have := hz h0
    rw [List.drop_eq_nil_of_le (by omega), List.drop_eq_nil_of_le (by omega), cmpL, h0]
  · rfl
theorem restC_end {α : Type} {e : α → α → Int} {l m : List α} {k : Nat} (h : l.length = m.length) (hk : l.length ≤ k) : restC e l m k 0 = 0 := by
  unfold restC
  rw [if_pos rfl, List.drop_eq_nil_of_le hk, List.drop_eq_nil_of_le (by omega), cmpL]

set_option maxHeartbeats 2000000 in
theorem robj_ok (a b : Ob) (ha : a.names.length = a.fields.length ∧ a.names.length = a.must.length) (hb : b.names.length = b.fields.length ∧ b.names.length = b.must.length)
    (h : PCall Tryd.prog 9 [vTy a.rest, vTy b.rest] (vInt (cmpTy a.rest b.rest))) (hf : ∀ x ∈ a.fields, ∀ y ∈ b.fields, PCall Tryd.prog 9 [vTy x, vTy y] (vInt (cmpTy x y))) : PCall Tryd.prog 71 [vOb a, vOb b] (vInt (cmpOb a b)) := by
  have eO : cmpOb a b = (if (if (if cmpL cmpS a.names b.names = 0 then cmpL truthC a.must b.must else cmpL cmpS a.names b.names) = 0 then cmpL cmpTy a.fields b.fields else (if cmpL cmpS a.names b.names = 0 then cmpL truthC a.must b.must else cmpL cmpS a.names b.names)) = 0 then cmpTy a.rest b.rest else (if (if cmpL cmpS a.names b.names = 0 then cmpL truthC a.must b.must else cmpL cmpS a.names b.names) = 0 then cmpL cmpTy a.fields b.fields else (if cmpL cmpS a.names b.names = 0 then cmpL truthC a.must b.must else cmpL cmpS a.names b.names))) := by
    rw [cmpOb_eq, orL_cons, orL_cons, orL_cons, orL_one]
    by_cases h0 : cmpL cmpS a.names b.names = 0
    · by_cases h1 : cmpL truthC a.must b.must = 0
      · by_cases h2 : cmpL cmpTy a.fields b.fields = 0
        · simp [h0, h1, h2]
        · simp [h0, h1, h2]
      · simp [h0, h1]
    · simp [h0]
  rw [eO]
  refine PCall.bd Tryd.func71 rfl (by decide) rfl rfl (fun hbd => ?_)
  have hl : a.fields.length ≤ 140737488355328 := (vob_bd (hbd 0 (by simp))).fields
  refine PCall.of_fx TTok mixed Tryd.func71 rfl (by decide) rfl rfl ?_
  conv => whnf
  refine (rtexts_ok a.names b.names).use (.refl _) ?_
  have hn : cmpL cmpS a.names b.names = 0 → a.must.length = b.must.length ∧ a.fields.length = b.fields.length := fun k => by
    have := str_TO.list.eq _ _ (fun _ _ => trivial) (fun _ _ => trivial) k
    rw [this] at ha
    omega
  generalize hc0 : cmpL cmpS a.names b.names = c0 at hn ⊢
  conv => whnf
  generalize hc1 : (if c0 = 0 then cmpL truthC a.must b.must else c0) = c1
  refine ⟨SExec.loop_i (fun i : Nat × Int => ⟨79, [(6, vInt i.1), (5, vInt i.2), (3, .bx 1 0), (2, .bx 0 0)], [.row 70 (cellsV (vOb a)), .row 70 (cellsV (vOb b))]⟩) (fun i => i.1 ≤ a.must.length ∧ i.1 ≤ b.must.length ∧ restC truthC a.must b.must i.1 i.2 = c1 ∧ (i.2 = 0 → c0 = 0)) (fun i => a.must.length - i.1)
    (0, c0) ⟨by simp, by simp, by simpa [restC] using hc1, fun k => k⟩
    (fun k => Nat.le_refl _) (St.subD_of rfl [] rfl rfl (.cons (.refl _) rfl (.cons (.refl _) rfl (.cons (.refl _) rfl (.cons (.refl _) rfl .nil))))) ?_⟩
  rintro ⟨k, c⟩ ⟨hk1, hk2, hI, hz⟩
  dsimp only at hk1 hk2 hI hz
  refine fx_sound TTok mixed ?_
  conv => whnf

  refine bsel_intro (fun hq1 => ?_) (fun hq1 => ?_)
  case' refine_2 =>
    have q1 : a.must.length ≤ k := by simpa using hq1
    rw [restC_exit (fun k0 => (hn (hz k0)).1) (.inl q1)] at hI
    subst hI
    conv => whnf
    generalize hc2 : (if c = 0 then cmpL cmpTy a.fields b.fields else c) = c2
    refine ⟨SExec.loop_i (fun i : Nat × Int => ⟨79, [(7, vInt i.1), (5, vInt i.2), (3, .bx 1 0), (2, .bx 0 0)], [.row 70 (cellsV (vOb a)), .row 70 (cellsV (vOb b))]⟩) (fun i => i.1 ≤ a.fields.length ∧ i.1 ≤ b.fields.length ∧ restC cmpTy a.fields b.fields i.1 i.2 = c2 ∧ (i.2 = 0 → c0 = 0)) (fun i => a.fields.length - i.1)
      (0, c) ⟨by simp, by simp, by simpa [restC] using hc2, hz⟩
      (fun k => Nat.le_refl _) (St.subD_of rfl [] rfl rfl (.cons (.refl _) rfl (.cons (.refl _) rfl (.cons (.refl _) rfl (.cons (.refl _) rfl .nil))))) ?_⟩
    rintro ⟨j, d⟩ ⟨hj1, hj2, hJ, hw⟩
    dsimp only at hj1 hj2 hJ hw
    refine fx_sound TTok mixed ?_
    conv => whnf
    refine bsel_intro (fun hq2 => ?_) (fun hq2 => ?_)
    case' refine_2 =>
      have q2 : a.fields.length ≤ j := by simpa using hq2
      rw [restC_exit (fun k0 => (hn (hw k0)).2) (.inl q2)] at hJ
      subst hJ
      conv => whnf
      refine bsel_intro (fun u => ?_) (fun u => ?_)
      · have u : d = 0 := by simpa using u
        conv => whnf
        refine h.use (.refl _) ?_
        conv => whnf
        exact retI TTok rfl (by rw [if_pos u])
      · have u : d ≠ 0 := by simpa using u
        conv => whnf
        exact retI TTok rfl (by rw [if_neg u])
    have q2 : j < a.fields.length := by simpa using hq2
    conv => whnf
    refine bsel_intro (fun hr2 => ?_) (fun hr2 => ?_)
    case' refine_2 =>
      have r2 : b.fields.length ≤ j := by simpa using hr2
      rw [restC_exit (fun k0 => (hn (hw k0)).2) (.inr (.inl r2))] at hJ
      subst hJ
      conv => whnf
      refine bsel_intro (fun u => ?_) (fun u => ?_)
      · have u : d = 0 := by simpa using u
        conv => whnf
        refine h.use (.refl _) ?_
        conv => whnf
        exact retI TTok rfl (by rw [if_pos u])
      · have u : d ≠ 0 := by simpa using u
        conv => whnf
        exact retI TTok rfl (by rw [if_neg u])
    have r2 : j < b.fields.length := by simpa using hr2
    conv => whnf
    refine bsel_intro (fun hs2 => ?_) (fun hs2 => ?_)
    case' refine_2 =>
      have s2 : d ≠ 0 := by simpa using hs2
      rw [restC_exit (fun k0 => (hn (hw k0)).2) (.inr (.inr s2))] at hJ
      subst hJ
      conv => whnf
      refine bsel_intro (fun u => ?_) (fun u => ?_)
      · have u : d = 0 := by simpa using u
        conv => whnf
        refine h.use (.refl _) ?_
        conv => whnf
        exact retI TTok rfl (by rw [if_pos u])
      · have u : d ≠ 0 := by simpa using u
        conv => whnf
        exact retI TTok rfl (by rw [if_neg u])
    have s2 : d = 0 := by simpa using hs2
    subst s2
    conv => whnf
    (refine ⟨by decide +kernel, ?_⟩; conv => whnf)
    refine idxTy q2 rfl ?_
    conv => whnf
    refine idxTy r2 rfl ?_
    conv => whnf
    refine (hf _ (List.getElem_mem q2) _ (List.getElem_mem r2)).useQ (.refl _) ?_
    conv => whnf
    rw [restC_step q2 r2] at hJ
    exact ⟨(j + 1, cmpTy a.fields[j] b.fields[j]), ⟨by dsimp only; omega, by dsimp only; omega, hJ, fun _ => hw rfl⟩, by dsimp only; omega, St.subD_of rfl _ rfl rfl (.cons (.of_eq (vInt_succ j (by omega))) rfl (.cons (.refl _) rfl (.cons (.refl _) rfl (.cons (.refl _) rfl .nil))))⟩
  have q1 : k < a.must.length := by simpa using hq1
  conv => whnf
  refine bsel_intro (fun hr1 => ?_) (fun hr1 => ?_)
  case' refine_2 =>
    have r1 : b.must.length ≤ k := by simpa using hr1
    rw [restC_exit (fun k0 => (hn (hz k0)).1) (.inr (.inl r1))] at hI
    subst hI
    conv => whnf
    generalize hc2 : (if c = 0 then cmpL cmpTy a.fields b.fields else c) = c2
    refine ⟨SExec.loop_i (fun i : Nat × Int => ⟨79, [(7, vInt i.1), (5, vInt i.2), (3, .bx 1 0), (2, .bx 0 0)], [.row 70 (cellsV (vOb a)), .row 70 (cellsV (vOb b))]⟩) (fun i => i.1 ≤ a.fields.length ∧ i.1 ≤ b.fields.length ∧ restC cmpTy a.fields b.fields i.1 i.2 = c2 ∧ (i.2 = 0 → c0 = 0)) (fun i => a.fields.length - i.1)
      (0, c) ⟨by simp, by simp, by simpa [restC] using hc2, hz⟩
      (fun k => Nat.le_refl _) (St.subD_of rfl [] rfl rfl (.cons (.refl _) rfl (.cons (.refl _) rfl (.cons (.refl _) rfl (.cons (.refl _) rfl .nil))))) ?_⟩
    rintro ⟨j, d⟩ ⟨hj1, hj2, hJ, hw⟩
    dsimp only at hj1 hj2 hJ hw
    refine fx_sound TTok mixed ?_
    conv => whnf
    refine bsel_intro (fun hq2 => ?_) (fun hq2 => ?_)
    case' refine_2 =>
      have q2 : a.fields.length ≤ j := by simpa using hq2
      rw [restC_exit (fun k0 => (hn (hw k0)).2) (.inl q2)] at hJ
      subst hJ
      conv => whnf
      refine bsel_intro (fun u => ?_) (fun u => ?_)
      · have u : d = 0 := by simpa using u
        conv => whnf
        refine h.use (.refl _) ?_
        conv => whnf
        exact retI TTok rfl (by rw [if_pos u])
      · have u : d ≠ 0 := by simpa using u
        conv => whnf
        exact retI TTok rfl (by rw [if_neg u])
    have q2 : j < a.fields.length := by simpa using hq2
    conv => whnf
    refine bsel_intro (fun hr2 => ?_) (fun hr2 => ?_)
    case' refine_2 =>
      have r2 : b.fields.length ≤ j := by simpa using hr2
      rw [restC_exit (fun k0 => (hn (hw k0)).2) (.inr (.inl r2))] at hJ
      subst hJ
      conv => whnf
      refine bsel_intro (fun u => ?_) (fun u => ?_)
      · have u : d = 0 := by simpa using u
        conv => whnf
        refine h.use (.refl _) ?_
        conv => whnf
        exact retI TTok rfl (by rw [if_pos u])
      · have u : d ≠ 0 := by simpa using u
        conv => whnf
        exact retI TTok rfl (by rw [if_neg u])
    have r2 : j < b.fields.length := by simpa using hr2
    conv => whnf
    refine bsel_intro (fun hs2 => ?_) (fun hs2 => ?_)
    case' refine_2 =>
      have s2 : d ≠ 0 := by simpa using hs2
      rw [restC_exit (fun k0 => (hn (hw k0)).2) (.inr (.inr s2))] at hJ
      subst hJ
      conv => whnf
      refine bsel_intro (fun u => ?_) (fun u => ?_)
      · have u : d = 0 := by simpa using u
        conv => whnf
        refine h.use (.refl _) ?_
        conv => whnf
        exact retI TTok rfl (by rw [if_pos u])
      · have u : d ≠ 0 := by simpa using u
        conv => whnf
        exact retI TTok rfl (by rw [if_neg u])
    have s2 : d = 0 := by simpa using hs2
    subst s2
    conv => whnf
    (refine ⟨by decide +kernel, ?_⟩; conv => whnf)
    refine idxTy q2 rfl ?_
    conv => whnf
    refine idxTy r2 rfl ?_
    conv => whnf
    refine (hf _ (List.getElem_mem q2) _ (List.getElem_mem r2)).useQ (.refl _) ?_
    conv => whnf
    rw [restC_step q2 r2] at hJ
    exact ⟨(j + 1, cmpTy a.fields[j] b.fields[j]), ⟨by dsimp only; omega, by dsimp only; omega, hJ, fun _ => hw rfl⟩, by dsimp only; omega, St.subD_of rfl _ rfl rfl (.cons (.of_eq (vInt_succ j (by omega))) rfl (.cons (.refl _) rfl (.cons (.refl _) rfl (.cons (.refl _) rfl .nil))))⟩
  have r1 : k < b.must.length := by simpa using hr1
  conv => whnf
  refine bsel_intro (fun hs1 => ?_) (fun hs1 => ?_)
  case' refine_2 =>
    have s1 : c ≠ 0 := by simpa using hs1
    rw [restC_exit (fun k0 => (hn (hz k0)).1) (.inr (.inr s1))] at hI
    subst hI
    conv => whnf
    generalize hc2 : (if c = 0 then cmpL cmpTy a.fields b.fields else c) = c2
    refine ⟨SExec.loop_i (fun i : Nat × Int => ⟨79, [(7, vInt i.1), (5, vInt i.2), (3, .bx 1 0), (2, .bx 0 0)], [.row 70 (cellsV (vOb a)), .row 70 (cellsV (vOb b))]⟩) (fun i => i.1 ≤ a.fields.length ∧ i.1 ≤ b.fields.length ∧ restC cmpTy a.fields b.fields i.1 i.2 = c2 ∧ (i.2 = 0 → c0 = 0)) (fun i => a.fields.length - i.1)
      (0, c) ⟨by simp, by simp, by simpa [restC] using hc2, hz⟩
      (fun k => Nat.le_refl _) (St.subD_of rfl [] rfl rfl (.cons (.refl _) rfl (.cons (.refl _) rfl (.cons (.refl _) rfl (.cons (.refl _) rfl .nil))))) ?_⟩
    rintro ⟨j, d⟩ ⟨hj1, hj2, hJ, hw⟩
    dsimp only at hj1 hj2 hJ hw
    refine fx_sound TTok mixed ?_
    conv => whnf
    refine bsel_intro (fun hq2 => ?_) (fun hq2 => ?_)
    case' refine_2 =>
      have q2 : a.fields.length ≤ j := by simpa using hq2
      rw [restC_exit (fun k0 => (hn (hw k0)).2) (.inl q2)] at hJ
      subst hJ
      conv => whnf
      refine bsel_intro (fun u => ?_) (fun u => ?_)
      · have u : d = 0 := by simpa using u
        conv => whnf
        refine h.use (.refl _) ?_
        conv => whnf
        exact retI TTok rfl (by rw [if_pos u])
      · have u : d ≠ 0 := by simpa using u
        conv => whnf
        exact retI TTok rfl (by rw [if_neg u])
    have q2 : j < a.fields.length := by simpa using hq2
    conv => whnf
    refine bsel_intro (fun hr2 => ?_) (fun hr2 => ?_)
    case' refine_2 =>
      have r2 : b.fields.length ≤ j := by simpa using hr2
      rw [restC_exit (fun k0 => (hn (hw k0)).2) (.inr (.inl r2))] at hJ
      subst hJ
      conv => whnf
      refine bsel_intro (fun u => ?_) (fun u => ?_)
      · have u : d = 0 := by simpa using u
        conv => whnf
        refine h.use (.refl _) ?_
        conv => whnf
        exact retI TTok rfl (by rw [if_pos u])
      · have u : d ≠ 0 := by simpa using u
        conv => whnf
        exact retI TTok rfl (by rw [if_neg u])
    have r2 : j < b.fields.length := by simpa using hr2
    conv => whnf
    refine bsel_intro (fun hs2 => ?_) (fun hs2 => ?_)
    case' refine_2 =>
      have s2 : d ≠ 0 := by simpa using hs2
      rw [restC_exit (fun k0 => (hn (hw k0)).2) (.inr (.inr s2))] at hJ
      subst hJ
      conv => whnf
      refine bsel_intro (fun u => ?_) (fun u => ?_)
      · have u : d = 0 := by simpa using u
        conv => whnf
        refine h.use (.refl _) ?_
        conv => whnf
        exact retI TTok rfl (by rw [if_pos u])
      · have u : d ≠ 0 := by simpa using u
        conv => whnf
        exact retI TTok rfl (by rw [if_neg u])
    have s2 : d = 0 := by simpa using hs2
    subst s2
    conv => whnf
    (refine ⟨by decide +kernel, ?_⟩; conv => whnf)
    refine idxTy q2 rfl ?_
    conv => whnf
    refine idxTy r2 rfl ?_
    conv => whnf
    refine (hf _ (List.getElem_mem q2) _ (List.getElem_mem r2)).useQ (.refl _) ?_
    conv => whnf
    rw [restC_step q2 r2] at hJ
    exact ⟨(j + 1, cmpTy a.fields[j] b.fields[j]), ⟨by dsimp only; omega, by dsimp only; omega, hJ, fun _ => hw rfl⟩, by dsimp only; omega, St.subD_of rfl _ rfl rfl (.cons (.of_eq (vInt_succ j (by omega))) rfl (.cons (.refl _) rfl (.cons (.refl _) rfl (.cons (.refl _) rfl .nil))))⟩
  have s1 : c = 0 := by simpa using hs1
  subst s1
  conv => whnf
  (refine ⟨by decide +kernel, ?_⟩; conv => whnf)
  refine idxBool q1 rfl ?_
  conv => whnf
  refine idxBool r1 rfl ?_
  conv => whnf
  refine (rtruth_ok a.must[k] b.must[k]).useQ (.refl _) ?_
  conv => whnf
  rw [restC_step q1 r1] at hI
  exact ⟨(k + 1, truthC a.must[k] b.must[k]), ⟨by dsimp only; omega, by dsimp only; omega, hI, fun _ => hz rfl⟩, by dsimp only; omega, St.subD_of rfl _ rfl rfl (.cons (.of_eq (vInt_succ k (by omega))) rfl (.cons (.refl _) rfl (.cons (.refl _) rfl (.cons (.refl _) rfl .nil))))⟩

set_option maxHeartbeats 2000000 in
theorem rcmp_ok : ∀ a : Ty, Formed a → ∀ b : Ty, Formed b → PCall Tryd.prog 9 [vTy a, vTy b] (vInt (cmpTy a b)) := by
  intro a
  induction a using Ty.ind with
  | h a iha iho =>
  intro ha b hb
  have ga := gd_of _ ha
  have gb := gd_of _ hb
  cases ga with | mk an am ai ar af =>
  cases gb with | mk bn bm bi br bf =>
  cases ha with | mk _ _ _ _ _ _ fi fo fr ff =>
  cases hb with | mk _ _ _ _ _ _ gi go gr gf =>
  have eT : cmpTy a b = (let w := orL [truthC a.all b.all, truthC a.null b.null, truthC a.fls b.fls, truthC a.tru b.tru]; if w = 0 then orL [cmpL cmpSp a.nums b.nums, truthC a.anyText b.anyText, cmpL cmpS a.texts b.texts, cmpL cmpAr a.arrays b.arrays, cmpL cmpOb a.objects b.objects] else w) := by
    rw [cmpTy_eq]
    simp only [orL_cons, orL_one]
    by_cases h0 : truthC a.all b.all = 0 <;> by_cases h1 : truthC a.null b.null = 0 <;> by_cases h2 : truthC a.fls b.fls = 0 <;> by_cases h3 : truthC a.tru b.tru = 0 <;> simp [h0, h1, h2, h3]
  rw [eT]
  refine PCall.of_fx TTok mixed Tryd.func9 rfl (by decide) rfl rfl ?_
  conv => whnf
  refine (rwords_ok a b).use (.refl _) ?_
  generalize orL [truthC a.all b.all, truthC a.null b.null, truthC a.fls b.fls, truthC a.tru b.tru] = w0
  simp only [orL_cons, orL_one]
  conv => whnf
  refine bsel_intro (fun h0 => ?_) (fun h0 => ?_)
  case' refine_2 =>
    have h0 : w0 ≠ 0 := by simpa using h0
    conv => whnf
    refine bsel_false (by simpa using h0) ?_
    conv => whnf
    refine bsel_false (by simpa using h0) ?_
    conv => whnf
    refine bsel_false (by simpa using h0) ?_
    conv => whnf
    refine bsel_false (by simpa using h0) ?_
    conv => whnf
    exact retI TTok rfl (by rw [if_neg h0])
  have h0 : w0 = 0 := by simpa using h0
  conv => whnf
  refine (rnums_ok a.nums b.nums an bn).use (.refl _) ?_
  conv => whnf
  refine bsel_intro (fun h1 => ?_) (fun h1 => ?_)
  case' refine_2 =>
    have h1 : cmpL cmpSp a.nums b.nums ≠ 0 := by simpa using h1
    conv => whnf
    refine bsel_false (by simpa using h1) ?_
    conv => whnf
    refine bsel_false (by simpa using h1) ?_
    conv => whnf
    refine bsel_false (by simpa using h1) ?_
    conv => whnf
    exact retI TTok rfl (by rw [if_pos h0, if_neg h1])
  have h1 : cmpL cmpSp a.nums b.nums = 0 := by simpa using h1
  conv => whnf
  refine (rtruth_ok a.anyText b.anyText).use (.refl _) ?_
  conv => whnf
  refine bsel_intro (fun h2 => ?_) (fun h2 => ?_)
  case' refine_2 =>
    have h2 : truthC a.anyText b.anyText ≠ 0 := by simpa using h2
    conv => whnf
    refine bsel_false (by simpa using h2) ?_
    conv => whnf
    refine bsel_false (by simpa using h2) ?_
    conv => whnf
    exact retI TTok rfl (by rw [if_pos h0, if_pos h1, if_neg h2])
  have h2 : truthC a.anyText b.anyText = 0 := by simpa using h2
  conv => whnf
  refine (rtexts_ok a.texts b.texts).use (.refl _) ?_
  conv => whnf
  refine bsel_intro (fun h3 => ?_) (fun h3 => ?_)
  case' refine_2 =>
    have h3 : cmpL cmpS a.texts b.texts ≠ 0 := by simpa using h3
    conv => whnf
    refine bsel_false (by simpa using h3) ?_
    conv => whnf
    exact retI TTok rfl (by rw [if_pos h0, if_pos h1, if_pos h2, if_neg h3])
  have h3 : cmpL cmpS a.texts b.texts = 0 := by simpa using h3
  conv => whnf
  refine (rarrs_ok a.arrays b.arrays fun x hx y hy => iha x hx (fi x hx) _ (gi y hy)).use (.refl _) ?_
  conv => whnf
  refine bsel_intro (fun h4 => ?_) (fun h4 => ?_)
  case' refine_2 =>
    have h4 : cmpL cmpAr a.arrays b.arrays ≠ 0 := by simpa using h4
    conv => whnf
    exact retI TTok rfl (by rw [if_pos h0, if_pos h1, if_pos h2, if_pos h3, if_neg h4])
  have h4 : cmpL cmpAr a.arrays b.arrays = 0 := by simpa using h4
  conv => whnf
  refine (robjs_ok a.objects b.objects fun x hx y hy => robj_ok x y ⟨(fo x hx).fields, (fo x hx).must⟩ ⟨(go y hy).fields, (go y hy).must⟩ ((iho x hx).1 (fr x hx) _ (gr y hy)) fun u hu v hv => (iho x hx).2 u hu (ff x hx u hu) _ (gf y hy v hv)).use (.refl _) ?_
  conv => whnf
  exact retI TTok rfl (by rw [if_pos h0, if_pos h1, if_pos h2, if_pos h3, if_pos h4])

theorem same_ok (a b : Ty) (ha : BOk a) (hb : BOk b) : PCall Tryd.prog 11 [vTy a, vTy b] (vBool (decide (cmpTy a b = 0))) := by
  refine PCall.of_fx TTok mixed Tryd.func11 rfl (by decide) rfl rfl ?_
  conv => whnf
  refine (cmp_ok a ha b hb).use (.refl _) ?_
  conv => whnf
  exact retB TTok rfl rfl
end Go.Ab
