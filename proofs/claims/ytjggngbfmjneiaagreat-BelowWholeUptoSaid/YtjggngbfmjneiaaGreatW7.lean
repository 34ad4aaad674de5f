import Derived.Test.YtjggngbfmjneiaaGreatW2
set_option linter.unusedVariables false
set_option linter.unusedSimpArgs false
set_option maxRecDepth 4000
namespace Go.Ab
open Go.Proofs

theorem ars_next {l : List Ar} {k : Nat} (hlt : k < l.length) (hI : ∀ j (h : j < l.length), j < k → ArOk l[j] ∧ Formed l[j].item) (h : ArOk l[k] ∧ Formed l[k].item) : ∀ j (h : j < l.length), j < k + 1 → ArOk l[j] ∧ Formed l[j].item := fun j hj hjk => by
  by_cases e : j = k
  · subst e; exact h
  · exact hI j hj (by omega)

theorem arrays_ok (l : List Ar) (hf : ∀ a ∈ l, PCall Tryz.prog 17 [vTy a.item] (vBool (tt (Formed a.item)))) : PCall Tryz.prog 55 [vArs l] (vBool (tt (ArsOk l))) := by
  refine PCall.of_fx TTok mixed Tryz.func55 rfl (by decide) rfl rfl ?_
  conv => whnf
  refine bsel_intro (fun h1 => ?_) (fun h1 => ?_)
  · have h1 : 1 < l.length := by simp at h1; omega
    conv => whnf
    exact retB TTok rfl (tt_f fun t => by have := t.one; omega)
  have h1 : l.length ≤ 1 := by simp at h1; omega
  conv => whnf
  refine ⟨SExec.loop_p l.length (fun k => ∀ j (h : j < l.length), j < k → ArOk l[j] ∧ Formed l[j].item) (fun k => ⟨70, [(3, vInt k), (0, vArs l)], []⟩) (fun j _ h => absurd h (Nat.not_lt_zero _))
    (fun k => Nat.le_refl _) (St.subD_of rfl [] rfl rfl (.cons (.refl _) rfl (.cons (.refl _) rfl .nil))) ?_⟩
  intro k hk hI
  refine fx_sound TTok mixed ?_
  conv => whnf
  refine bsel_intro (fun hlt => ?_) (fun hlt => ?_)
  · have hlt : k < l.length := by simpa using hlt
    have hm := List.getElem_mem hlt
    conv => whnf
    (refine ⟨by decide +kernel, ?_⟩; conv => whnf)
    refine idxAr hlt rfl ?_
    conv => whnf
    refine bsel_intro (fun h2 => ?_) (fun h2 => ?_)
    · have h2 : 0 ≤ l[k].min := by simpa using h2
      conv => whnf
      refine idxAr hlt rfl ?_
      conv => whnf
      refine bsel_intro (fun h3 => ?_) (fun h3 => ?_)
      · have h3 : -1 ≤ l[k].max := by simpa using h3
        conv => whnf
        refine idxAr hlt rfl ?_
        conv => whnf
        refine bsel_intro (fun h4 => ?_) (fun h4 => ?_)
        · have h4 : 0 ≤ l[k].max := by simpa using h4
          conv => whnf
          refine idxAr hlt rfl ?_
          conv => whnf
          refine idxAr hlt rfl ?_
          conv => whnf
          refine bsel_intro (fun h5 => ?_) (fun h5 => ?_)
          · have h5 : l[k].max < l[k].min := by simpa using h5
            conv => whnf
            exact retB TTok rfl (tt_f fun t => by have := (t.arr _ hm).le h4; omega)
          · have h5 : l[k].min ≤ l[k].max := by simpa using h5
            conv => whnf
            have hle : 0 ≤ l[k].max → l[k].min ≤ l[k].max := fun _ => by omega
            (refine ⟨by decide +kernel, ?_⟩; conv => whnf)
            refine idxAr hlt rfl ?_
            conv => whnf
            refine (hf _ hm).useQ (.refl _) ?_
            conv => whnf
            refine bsel_intro (fun h6 => ?_) (fun h6 => ?_)
            · have h6 := tt_iff.1 (by simpa using h6)
              conv => whnf
              refine idxAr hlt rfl ?_
              conv => whnf
              refine (never_ok l[k].item).useQ (.refl _) ?_
              conv => whnf
              refine idxAr hlt rfl ?_
              conv => whnf
              refine bsel_intro (fun h7 => ?_) (fun h7 => ?_)
              · have h7 : tt (Never l[k].item) ≠ (l[k].max == 0) := by simpa using h7
                conv => whnf
                exact retB TTok rfl (tt_f fun t => h7 (tt_eq (p := Never l[k].item) (b := l[k].max == 0) (by rw [(t.arr _ hm).never]; simp)).symm)
              · have h7 : tt (Never l[k].item) = (l[k].max == 0) := by simpa using h7
                conv => whnf
                refine ⟨⟨hlt, ars_next hlt hI ⟨⟨h2, h3, hle, ?_⟩, h6⟩⟩, St.subD_of rfl _ rfl rfl (.cons (.of_eq (vInt_succ k (by omega))) rfl (.cons (.refl _) rfl .nil))⟩
                exact (tt_iff (p := Never l[k].item)).symm.trans (by rw [h7]; simp)
            · have h6 := tt_not.1 (by simpa using h6)
              conv => whnf
              exact retB TTok rfl (tt_f fun t => h6 (t.item _ hm))
        · have h4 : l[k].max < 0 := by simpa using h4
          conv => whnf
          have hle : 0 ≤ l[k].max → l[k].min ≤ l[k].max := fun _ => by omega
          (refine ⟨by decide +kernel, ?_⟩; conv => whnf)
          refine idxAr hlt rfl ?_
          conv => whnf
          refine (hf _ hm).useQ (.refl _) ?_
          conv => whnf
          refine bsel_intro (fun h6 => ?_) (fun h6 => ?_)
          · have h6 := tt_iff.1 (by simpa using h6)
            conv => whnf
            refine idxAr hlt rfl ?_
            conv => whnf
            refine (never_ok l[k].item).useQ (.refl _) ?_
            conv => whnf
            refine idxAr hlt rfl ?_
            conv => whnf
            refine bsel_intro (fun h7 => ?_) (fun h7 => ?_)
            · have h7 : tt (Never l[k].item) ≠ (l[k].max == 0) := by simpa using h7
              conv => whnf
              exact retB TTok rfl (tt_f fun t => h7 (tt_eq (p := Never l[k].item) (b := l[k].max == 0) (by rw [(t.arr _ hm).never]; simp)).symm)
            · have h7 : tt (Never l[k].item) = (l[k].max == 0) := by simpa using h7
              conv => whnf
              refine ⟨⟨hlt, ars_next hlt hI ⟨⟨h2, h3, hle, ?_⟩, h6⟩⟩, St.subD_of rfl _ rfl rfl (.cons (.of_eq (vInt_succ k (by omega))) rfl (.cons (.refl _) rfl .nil))⟩
              exact (tt_iff (p := Never l[k].item)).symm.trans (by rw [h7]; simp)
          · have h6 := tt_not.1 (by simpa using h6)
            conv => whnf
            exact retB TTok rfl (tt_f fun t => h6 (t.item _ hm))
      · have h3 : l[k].max < -1 := by simpa using h3
        conv => whnf
        exact retB TTok rfl (tt_f fun t => by have := (t.arr _ hm).max; omega)
    · have h2 : l[k].min < 0 := by simpa using h2
      conv => whnf
      exact retB TTok rfl (tt_f fun t => by have := (t.arr _ hm).min; omega)
  · have hge : l.length ≤ k := by simpa using hlt
    conv => whnf
    refine retB TTok rfl (tt_t ⟨h1, fun s hs => ?_, fun s hs => ?_⟩)
    · obtain ⟨j, hj, rfl⟩ := List.mem_iff_getElem.1 hs
      exact (hI j hj (by omega)).1
    · obtain ⟨j, hj, rfl⟩ := List.mem_iff_getElem.1 hs
      exact (hI j hj (by omega)).2

theorem object_ok (o : Ob) (hr : PCall Tryz.prog 17 [vTy o.rest] (vBool (tt (Formed o.rest)))) (hf : ∀ f ∈ o.fields, PCall Tryz.prog 17 [vTy f] (vBool (tt (Formed f)))) :
    PCall Tryz.prog 88 [vOb o] (vBool (tt (ObF o))) := by
  refine PCall.bd Tryz.func88 rfl (by decide) rfl rfl (fun hbd => ?_)
  have hl : o.fields.length ≤ 140737488355328 := (vob_bd (hbd 0 (by simp))).fields
  refine PCall.of_fx TTok mixed Tryz.func88 rfl (by decide) rfl rfl ?_
  conv => whnf
  refine bsel_intro (fun h1 => ?_) (fun h1 => ?_)
  · have h1 : o.names.length = o.fields.length := by simp [ofNat_cast] at h1; omega
    conv => whnf
    refine bsel_intro (fun h2 => ?_) (fun h2 => ?_)
    · have h2 : o.names.length = o.must.length := by simp [ofNat_cast] at h2; omega
      conv => whnf
      refine (rise_ok o.names).use (.refl _) ?_
      conv => whnf
      refine bsel_intro (fun h3 => ?_) (fun h3 => ?_)
      · have h3 := tt_iff.1 (by simpa using h3)
        conv => whnf
        refine hr.use (.refl _) ?_
        conv => whnf
        refine bsel_intro (fun h4 => ?_) (fun h4 => ?_)
        · have h4 := tt_not.1 (by simpa using h4)
          conv => whnf
          exact retB TTok rfl (tt_f fun t => h4 t.rest)
        have h4 := tt_iff.1 (by simpa using h4)
        conv => whnf
        refine ⟨SExec.loop_p o.fields.length (fun k => ∀ j (h : j < o.fields.length) (h' : j < o.must.length), j < k → Formed o.fields[j] ∧ (o.must[j] = true → ¬Never o.fields[j])) (fun k => ⟨61, [(3, vInt k), (1, .bx 0 0)], [.row 44 (cellsV (vOb o))]⟩) (fun j _ _ h => absurd h (Nat.not_lt_zero _))
          (fun k => Nat.le_refl _) (St.subD_of rfl [] rfl rfl (.cons (.refl _) rfl (.cons (.refl _) rfl .nil))) ?_⟩
        intro k hk hI
        refine fx_sound TTok mixed ?_
        conv => whnf
        refine bsel_intro (fun hlt => ?_) (fun hlt => ?_)
        · have hlt : k < o.fields.length := by simpa using hlt
          have hltm : k < o.must.length := by omega
          have hm := List.getElem_mem hlt
          conv => whnf
          refine idxTy hlt rfl ?_
          conv => whnf
          refine (hf _ hm).use (.refl _) ?_
          conv => whnf
          refine bsel_intro (fun h5 => ?_) (fun h5 => ?_)
          · have h5 := tt_iff.1 (by simpa using h5)
            conv => whnf
            refine idxBool hltm rfl ?_
            conv => whnf
            refine bsel_intro (fun h6 => ?_) (fun h6 => ?_)
            · have h6 : o.must[k] = true := by simpa using h6
              conv => whnf
              refine idxTy hlt rfl ?_
              conv => whnf
              refine (never_ok _).use (.refl _) ?_
              conv => whnf
              refine bsel_intro (fun h7 => ?_) (fun h7 => ?_)
              · have h7 := tt_iff.1 (by simpa using h7)
                conv => whnf
                exact retB TTok rfl (tt_f fun t => t.obj.never k hlt hltm h6 h7)
              · have h7 := tt_not.1 (by simpa using h7)
                conv => whnf
                refine ⟨⟨hlt, fun j hj hj' hjk => ?_⟩, St.subD_of rfl _ rfl rfl (.cons (.of_eq (vInt_succ k (by omega))) rfl (.cons (.refl _) rfl .nil))⟩
                by_cases e : j = k
                · subst e; exact ⟨h5, fun _ => h7⟩
                · exact hI j hj hj' (by omega)
            · have h6 : o.must[k] = false := by simpa using h6
              conv => whnf
              refine ⟨⟨hlt, fun j hj hj' hjk => ?_⟩, St.subD_of rfl _ rfl rfl (.cons (.of_eq (vInt_succ k (by omega))) rfl (.cons (.refl _) rfl .nil))⟩
              by_cases e : j = k
              · subst e; exact ⟨h5, fun h => by rw [h6] at h; cases h⟩
              · exact hI j hj hj' (by omega)
          · have h5 := tt_not.1 (by simpa using h5)
            conv => whnf
            exact retB TTok rfl (tt_f fun t => h5 (t.field _ hm))
        · have hge : o.fields.length ≤ k := by simpa using hlt
          conv => whnf
          refine retB TTok rfl (tt_t ⟨⟨h1, h2, h3, fun i hi hi' => (hI i hi hi' (by omega)).2⟩, h4, fun f hf' => ?_⟩)
          obtain ⟨j, hj, rfl⟩ := List.mem_iff_getElem.1 hf'
          exact (hI j hj (by omega) (by omega)).1
      · have h3 := tt_not.1 (by simpa using h3)
        conv => whnf
        exact retB TTok rfl (tt_f fun t => h3 t.obj.rise)
    · have h2 : o.names.length ≠ o.must.length := by simp [ofNat_cast] at h2; omega
      conv => whnf
      exact retB TTok rfl (tt_f fun t => h2 t.obj.must)
  · have h1 : o.names.length ≠ o.fields.length := by simp [ofNat_cast] at h1; omega
    conv => whnf
    exact retB TTok rfl (tt_f fun t => h1 t.obj.fields)

theorem objects_ok (l : List Ob) (hf : ∀ o ∈ l, PCall Tryz.prog 88 [vOb o] (vBool (tt (ObF o)))) : PCall Tryz.prog 56 [vObs l] (vBool (tt (∀ o ∈ l, ObF o))) := by
  refine PCall.bd Tryz.func56 rfl (by decide) rfl rfl (fun hbd => ?_)
  have hl : l.length ≤ 140737488355328 := bd_map (hbd 0 (by simp))
  refine PCall.of_fx TTok mixed Tryz.func56 rfl (by decide) rfl rfl ?_
  conv => whnf
  refine ⟨SExec.loop_p l.length (fun k => ∀ j (h : j < l.length), j < k → ObF l[j]) (fun k => ⟨16, [(3, vInt k), (0, vObs l)], []⟩) (fun j _ h => absurd h (Nat.not_lt_zero _))
    (fun k => Nat.le_refl _) (St.subD_of rfl [] rfl rfl (.cons (.refl _) rfl (.cons (.refl _) rfl .nil))) ?_⟩
  intro k hk hI
  refine fx_sound TTok mixed ?_
  conv => whnf
  refine bsel_intro (fun hlt => ?_) (fun hlt => ?_)
  · have hlt : k < l.length := by simpa using hlt
    have hm := List.getElem_mem hlt
    conv => whnf
    refine idxOb hlt rfl ?_
    conv => whnf
    refine (hf _ hm).use (.refl _) ?_
    conv => whnf
    refine bsel_intro (fun h1 => ?_) (fun h1 => ?_)
    · have h1 := tt_not.1 (by simpa using h1)
      conv => whnf
      exact retB TTok rfl (tt_f fun t => h1 (t _ hm))
    · have h1 := tt_iff.1 (by simpa using h1)
      conv => whnf
      refine ⟨⟨hlt, fun j hj hjk => ?_⟩, St.subD_of rfl _ rfl rfl (.cons (.of_eq (vInt_succ k (by omega))) rfl (.cons (.refl _) rfl .nil))⟩
      by_cases e : j = k
      · subst e; exact h1
      · exact hI j hj (by omega)
  · have hge : l.length ≤ k := by simpa using hlt
    conv => whnf
    refine retB TTok rfl (tt_t fun o ho => ?_)
    obtain ⟨j, hj, rfl⟩ := List.mem_iff_getElem.1 ho
    exact hI j hj (by omega)

theorem formed_ok : ∀ t : Ty, PCall Tryz.prog 17 [vTy t] (vBool (tt (Formed t))) := by
  intro t
  induction t using Ty.ind with
  | h t iha iho =>
  refine PCall.of_fx TTok mixed Tryz.func17 rfl (by decide) rfl rfl ?_
  rw [tt_congr formed_iff]
  conv => whnf
  refine bsel_intro (fun h1 => ?_) (fun h1 => ?_)
  · have h1 : t.all = true := by simpa using h1
    conv => whnf
    refine (bare_ok t).use (.refl _) ?_
    conv => whnf
    refine bsel_intro (fun h2 => ?_) (fun h2 => ?_)
    · have h2 := tt_not.1 (by simpa using h2)
      conv => whnf
      exact retB TTok rfl (tt_f fun k => h2 (k.1 h1))
    · have h2 := tt_iff.1 (by simpa using h2)
      have hall : t.all = true → Bare t := fun _ => h2
      conv => whnf
      refine (rise_ok _).use (.refl _) ?_
      conv => whnf
      refine bsel_intro (fun h3 => ?_) (fun h3 => ?_)
      · have h3 := tt_iff.1 (by simpa using h3)
        conv => whnf
        refine bsel_intro (fun h4 => ?_) (fun h4 => ?_)
        · have h4 : t.anyText = true := by simpa using h4
          conv => whnf
          refine bsel_intro (fun h5 => ?_) (fun h5 => ?_)
          · have h5 : 0 < t.texts.length := by simpa using h5
            conv => whnf
            exact retB TTok rfl (tt_f fun k => by have := k.2.2.1 h4; omega)
          · have h5 : t.texts.length = 0 := by simp at h5; simp [h5]
            have hany : t.anyText = true → t.texts.length = 0 := fun _ => h5
            conv => whnf
            refine (spans_ok _).use (.refl _) ?_
            conv => whnf
            refine bsel_intro (fun h6 => ?_) (fun h6 => ?_)
            · have h6 := tt_iff.1 (by simpa using h6)
              conv => whnf
              refine (arrays_ok t.arrays iha).use (.refl _) ?_
              conv => whnf
              refine bsel_intro (fun h7 => ?_) (fun h7 => ?_)
              · have h7 := tt_iff.1 (by simpa using h7)
                conv => whnf
                refine (objects_ok t.objects fun o ho => object_ok o (iho o ho).1 (iho o ho).2).use (.refl _) ?_
                conv => whnf
                exact retB TTok rfl (tt_congr ⟨fun k => ⟨hall, h3, hany, h6, h7, k⟩, fun k => k.2.2.2.2.2⟩)
              · have h7 := tt_not.1 (by simpa using h7)
                conv => whnf
                exact retB TTok rfl (tt_f fun k => h7 k.2.2.2.2.1)
            · have h6 := tt_not.1 (by simpa using h6)
              conv => whnf
              exact retB TTok rfl (tt_f fun k => h6 k.2.2.2.1)
        · have h4 : t.anyText = false := by simpa using h4
          have hany : t.anyText = true → t.texts.length = 0 := fun k => by rw [h4] at k; cases k
          conv => whnf
          refine (spans_ok _).use (.refl _) ?_
          conv => whnf
          refine bsel_intro (fun h6 => ?_) (fun h6 => ?_)
          · have h6 := tt_iff.1 (by simpa using h6)
            conv => whnf
            refine (arrays_ok t.arrays iha).use (.refl _) ?_
            conv => whnf
            refine bsel_intro (fun h7 => ?_) (fun h7 => ?_)
            · have h7 := tt_iff.1 (by simpa using h7)
              conv => whnf
              refine (objects_ok t.objects fun o ho => object_ok o (iho o ho).1 (iho o ho).2).use (.refl _) ?_
              conv => whnf
              exact retB TTok rfl (tt_congr ⟨fun k => ⟨hall, h3, hany, h6, h7, k⟩, fun k => k.2.2.2.2.2⟩)
            · have h7 := tt_not.1 (by simpa using h7)
              conv => whnf
              exact retB TTok rfl (tt_f fun k => h7 k.2.2.2.2.1)
          · have h6 := tt_not.1 (by simpa using h6)
            conv => whnf
            exact retB TTok rfl (tt_f fun k => h6 k.2.2.2.1)
      · have h3 := tt_not.1 (by simpa using h3)
        conv => whnf
        exact retB TTok rfl (tt_f fun k => h3 k.2.1)
  · have h1 : t.all = false := by simpa using h1
    have hall : t.all = true → Bare t := fun k => by rw [h1] at k; cases k
    conv => whnf
    refine (rise_ok _).use (.refl _) ?_
    conv => whnf
    refine bsel_intro (fun h3 => ?_) (fun h3 => ?_)
    · have h3 := tt_iff.1 (by simpa using h3)
      conv => whnf
      refine bsel_intro (fun h4 => ?_) (fun h4 => ?_)
      · have h4 : t.anyText = true := by simpa using h4
        conv => whnf
        refine bsel_intro (fun h5 => ?_) (fun h5 => ?_)
        · have h5 : 0 < t.texts.length := by simpa using h5
          conv => whnf
          exact retB TTok rfl (tt_f fun k => by have := k.2.2.1 h4; omega)
        · have h5 : t.texts.length = 0 := by simp at h5; simp [h5]
          have hany : t.anyText = true → t.texts.length = 0 := fun _ => h5
          conv => whnf
          refine (spans_ok _).use (.refl _) ?_
          conv => whnf
          refine bsel_intro (fun h6 => ?_) (fun h6 => ?_)
          · have h6 := tt_iff.1 (by simpa using h6)
            conv => whnf
            refine (arrays_ok t.arrays iha).use (.refl _) ?_
            conv => whnf
            refine bsel_intro (fun h7 => ?_) (fun h7 => ?_)
            · have h7 := tt_iff.1 (by simpa using h7)
              conv => whnf
              refine (objects_ok t.objects fun o ho => object_ok o (iho o ho).1 (iho o ho).2).use (.refl _) ?_
              conv => whnf
              exact retB TTok rfl (tt_congr ⟨fun k => ⟨hall, h3, hany, h6, h7, k⟩, fun k => k.2.2.2.2.2⟩)
            · have h7 := tt_not.1 (by simpa using h7)
              conv => whnf
              exact retB TTok rfl (tt_f fun k => h7 k.2.2.2.2.1)
          · have h6 := tt_not.1 (by simpa using h6)
            conv => whnf
            exact retB TTok rfl (tt_f fun k => h6 k.2.2.2.1)
      · have h4 : t.anyText = false := by simpa using h4
        have hany : t.anyText = true → t.texts.length = 0 := fun k => by rw [h4] at k; cases k
        conv => whnf
        refine (spans_ok _).use (.refl _) ?_
        conv => whnf
        refine bsel_intro (fun h6 => ?_) (fun h6 => ?_)
        · have h6 := tt_iff.1 (by simpa using h6)
          conv => whnf
          refine (arrays_ok t.arrays iha).use (.refl _) ?_
          conv => whnf
          refine bsel_intro (fun h7 => ?_) (fun h7 => ?_)
          · have h7 := tt_iff.1 (by simpa using h7)
            conv => whnf
            refine (objects_ok t.objects fun o ho => object_ok o (iho o ho).1 (iho o ho).2).use (.refl _) ?_
            conv => whnf
            exact retB TTok rfl (tt_congr ⟨fun k => ⟨hall, h3, hany, h6, h7, k⟩, fun k => k.2.2.2.2.2⟩)
          · have h7 := tt_not.1 (by simpa using h7)
            conv => whnf
            exact retB TTok rfl (tt_f fun k => h7 k.2.2.2.2.1)
        · have h6 := tt_not.1 (by simpa using h6)
          conv => whnf
          exact retB TTok rfl (tt_f fun k => h6 k.2.2.2.1)
    · have h3 := tt_not.1 (by simpa using h3)
      conv => whnf
      exact retB TTok rfl (tt_f fun k => h3 k.2.1)
end Go.Ab
