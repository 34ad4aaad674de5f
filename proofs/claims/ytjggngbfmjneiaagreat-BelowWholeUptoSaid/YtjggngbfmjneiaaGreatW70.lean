import Derived.Test.YtjggngbfmjneiaaGreatW69
import Derived.Test.YtjggngbfmjneiaaGreatW9
import Derived.Test.YtjggngbfmjneiaaGreatW52
set_option linter.unusedVariables false
set_option linter.unusedSimpArgs false
set_option maxRecDepth 4000
namespace Go.Ab
open Go.Proofs

/-- All counts of items are small. -/
inductive ModT : Ty → Prop where
  | mk {t : Ty} (min : ∀ a ∈ t.arrays, a.min ≤ 4) (max : ∀ a ∈ t.arrays, a.max ≤ 8) (item : ∀ a ∈ t.arrays, ModT a.item) (rest : ∀ o ∈ t.objects, ModT o.rest) (field : ∀ o ∈ t.objects, ∀ f ∈ o.fields, ModT f) : ModT t
theorem ModT.min {t : Ty} (h : ModT t) : ∀ a ∈ t.arrays, a.min ≤ 4 := by cases h; assumption
theorem ModT.max {t : Ty} (h : ModT t) : ∀ a ∈ t.arrays, a.max ≤ 8 := by cases h; assumption
theorem ModT.item {t : Ty} (h : ModT t) : ∀ a ∈ t.arrays, ModT a.item := by cases h; assumption
theorem ModT.rest {t : Ty} (h : ModT t) : ∀ o ∈ t.objects, ModT o.rest := by cases h; assumption
theorem ModT.field {t : Ty} (h : ModT t) : ∀ o ∈ t.objects, ∀ f ∈ o.fields, ModT f := by cases h; assumption
theorem mod_all : ModT tyAll := .mk (fun _ h => by cases h) (fun _ h => by cases h) (fun _ h => by cases h) (fun _ h => by cases h) (fun _ h => by cases h)
theorem mod_laid0 : ModT tyLaid := by
  refine .mk (fun a ha => ?_) (fun a ha => ?_) (fun a ha => ?_) (fun o ho => ?_) (fun o ho f hf => ?_)
  · have ha : a ∈ [arOpen] := ha
    obtain rfl := List.mem_singleton.1 ha
    decide
  · have ha : a ∈ [arOpen] := ha
    obtain rfl := List.mem_singleton.1 ha
    decide
  · have ha : a ∈ [arOpen] := ha
    obtain rfl := List.mem_singleton.1 ha
    exact mod_all
  · have ho : o ∈ [obOpen] := ho
    obtain rfl := List.mem_singleton.1 ho
    exact mod_all
  · have ho : o ∈ [obOpen] := ho
    obtain rfl := List.mem_singleton.1 ho
    cases hf
theorem ModT.laid {t : Ty} (h : ModT t) : ModT (Ab.laid t) := by
  unfold Ab.laid
  split
  · exact mod_laid0
  · exact h
theorem ModT.fieldO {t : Ty} (h : ModT t) {o : Ob} (ho : o ∈ t.objects) (w : ObW o) (n : ByteArray) : ModT (Ab.fieldO o n).1 := by
  rcases fieldO_mem o n w with e | e
  · rw [e]; exact h.rest o ho
  · exact h.field o ho _ e
theorem sm_all : SmT tyAll := .mk (fun _ h => by cases h) (fun _ h => by cases h) (fun _ h => by cases h) (fun _ h => by cases h) (fun _ h => by cases h) (fun _ h => by cases h)
theorem sm_laid0 : SmT tyLaid := by
  refine .mk (fun s hs => ?_) (fun s hs => by cases hs) (fun a ha => ?_) (fun o ho n hn => ?_) (fun o ho => ?_) (fun o ho f hf => ?_)
  · have hs : s ∈ [spOpen] := hs
    obtain rfl := List.mem_singleton.1 hs
    exact ⟨Nat.zero_le _, Nat.zero_le _⟩
  · have ha : a ∈ [arOpen] := ha
    obtain rfl := List.mem_singleton.1 ha
    exact sm_all
  · have ho : o ∈ [obOpen] := ho
    obtain rfl := List.mem_singleton.1 ho
    cases hn
  · have ho : o ∈ [obOpen] := ho
    obtain rfl := List.mem_singleton.1 ho
    exact sm_all
  · have ho : o ∈ [obOpen] := ho
    obtain rfl := List.mem_singleton.1 ho
    cases hf
theorem SmT.laid {t : Ty} (h : SmT t) : SmT (Ab.laid t) := by
  unfold Ab.laid
  split
  · exact sm_laid0
  · exact h
theorem SmT.fieldO {t : Ty} (h : SmT t) {o : Ob} (ho : o ∈ t.objects) (w : ObW o) (n : ByteArray) : SmT (Ab.fieldO o n).1 := by
  rcases fieldO_mem o n w with e | e
  · rw [e]; exact h.rest o ho
  · exact h.field o ho _ e

structure Good (t : Ty) : Prop where
  bw : Bw t
  fm : Formed t
  md : ModT t
  sm : SmT t
theorem good_all : Good tyAll := ⟨bw_all, fm_all, mod_all, sm_all⟩
theorem Good.item {t : Ty} (h : Good t) : ∀ a ∈ (laid t).arrays, Good a.item := fun a ha => ⟨bw_item h.bw.laid a ha, (fl_laid h.fm).item a ha, h.md.laid.item a ha, h.sm.laid.item a ha⟩
theorem Good.obw {t : Ty} (h : Good t) : ∀ o ∈ (laid t).objects, ObW o := bw_obj h.bw.laid
theorem Good.field {t : Ty} (h : Good t) : ∀ o ∈ (laid t).objects, ∀ n, Good (fieldO o n).1 := fun o ho n => ⟨h.bw.laid.fieldO ho n, (fl_laid h.fm).fieldO ho (h.obw o ho) n, h.md.laid.fieldO ho (h.obw o ho) n, h.sm.laid.fieldO ho (h.obw o ho) n⟩
theorem Good.rest {t : Ty} (h : Good t) : ∀ o ∈ (laid t).objects, Good o.rest := fun o ho => ⟨bw_rest h.bw.laid o ho, (fl_laid h.fm).rest o ho, h.md.laid.rest o ho, h.sm.laid.rest o ho⟩
theorem Good.utf {t : Ty} (h : Good t) : ∀ o ∈ (laid t).objects, ∀ n ∈ o.names, Utf n := fun o ho => ((fl_laid h.fm).obj o ho).rise.utf
theorem Good.min {t : Ty} (h : Good t) : ∀ a ∈ (laid t).arrays, 0 ≤ a.min ∧ a.min ≤ 4 := fun a ha => ⟨((fl_laid h.fm).arr a ha).min, h.md.laid.min a ha⟩
theorem fm_texts {t : Ty} (h : Formed t) : Rise t.texts := by cases h; assumption
theorem Good.laidW {t : Ty} (h : Good t) : LaidW (laid t) := by
  refine ⟨laid_notAll t, bw_nums h.bw.laid, (fl_laid h.fm).spans.len, ?_, laid_any h.fm⟩
  unfold laid
  split
  · intro s hs; cases hs
  · exact (fm_texts h.fm).utf

open Classical in
noncomputable def pickV (bo : Ob → Ob → Val × Bool) (X Y : List Ob) : Val × Bool := match X.find? (fun o => (Y.find? (fun q => (bo o q).2)).isSome) with
  | some o => match Y.find? (fun q => (bo o q).2) with
    | some q => bo o q
    | none => (vk 0, false)
  | none => (vk 0, false)
open Classical in
noncomputable def bothV (x y : Ty) (xv : Val) (xf : Bool) (bo : Ob → Ob → Val × Bool) : Val × Bool :=
  if (scalV x y).2 = true then scalV x y else if h : ∃ (h1 : 0 < x.arrays.length) (h2 : 0 < y.arrays.length), (barV x.arrays[0] y.arrays[0] xv xf).2 = true then barV (x.arrays[0]'h.1) (y.arrays[0]'h.2.1) xv xf
  else pickV bo x.objects y.objects
theorem pickV_ok {x y : List Ob} {bo : Ob → Ob → Val × Bool} : ((pickV bo x y).2 = true → ∃ o ∈ x, ∃ q ∈ y, pickV bo x y = bo o q) ∧ ((pickV bo x y).2 = false → pickV bo x y = (vk 0, false) ∧ ∀ o ∈ x, ∀ q ∈ y, (bo o q).2 = false) := by
  unfold pickV
  cases hx : x.find? (fun o => (y.find? (fun q => (bo o q).2)).isSome) with
  | none =>
    refine ⟨fun h => (by cases h), fun _ => ⟨rfl, fun o ho q hq => ?_⟩⟩
    have h1 := List.find?_eq_none.1 hx o ho
    cases hy : y.find? (fun q => (bo o q).2) with
    | none => simpa using List.find?_eq_none.1 hy q hq
    | some q' => rw [hy] at h1; exact absurd rfl h1
  | some o =>
    have h1 := List.find?_some hx
    have h2 := List.mem_of_find?_eq_some hx
    cases hy : y.find? (fun q => (bo o q).2) with
    | none => rw [hy] at h1; cases h1
    | some q =>
      have h3 := List.find?_some hy
      have h4 := List.mem_of_find?_eq_some hy
      simp only [hy]
      exact ⟨fun _ => ⟨o, h2, q, h4, rfl⟩, fun h => by rw [h3] at h; cases h⟩

theorem bothV_ok {a b : Ty} (ga : Good a) (gb : Good b) {xv : Val} {xf : Bool} {bo : Ob → Ob → Val × Bool}
    (ar : ¬(a.all = true ∧ b.all = true) → ∀ (h1 : 0 < (laid a).arrays.length) (h2 : 0 < (laid b).arrays.length), BothArS (laid a).arrays[0] (laid b).arrays[0] (barV (laid a).arrays[0] (laid b).arrays[0] xv xf).1 (barV (laid a).arrays[0] (laid b).arrays[0] xv xf).2)
    (ob : ¬(a.all = true ∧ b.all = true) → ∀ x ∈ (laid a).objects, ∀ y ∈ (laid b).objects, BothObS x y (bo x y).1 (bo x y).2) : BothS a b (bothV (laid a) (laid b) xv xf bo).1 (bothV (laid a) (laid b) xv xf bo).2 := by
  have sc := scalV_ok ga.laidW gb.laidW
  unfold bothV
  split
  · rename_i h
    rw [h] at sc ⊢
    exact bothS_scal sc
  · rename_i h
    have h : (scalV (laid a) (laid b)).2 = false := by simpa using h
    have no := sc.no h
    have na : ¬(a.all = true ∧ b.all = true) := fun hh => by
      have := no.1.1
      rw [laid_all hh.1, laid_all hh.2] at this
      exact this ⟨rfl, rfl⟩
    split
    · rename_i h1
      obtain ⟨l1, l2, hf⟩ := h1
      have := ar na l1 l2
      rw [hf] at this ⊢
      exact bothS_arr l1 l2 this
    · rename_i h1
      have ha : ArrsAp (laid a) (laid b) := arrsAp_of fun l1 l2 => (ar na l1 l2).no (by
        cases hf : (barV (laid a).arrays[0] (laid b).arrays[0] xv xf).2 with
        | false => rfl
        | true => exact absurd ⟨l1, l2, hf⟩ h1)
      have hp := pickV_ok (x := (laid a).objects) (y := (laid b).objects) (bo := bo)
      cases hf : (pickV bo (laid a).objects (laid b).objects).2 with
      | true =>
        obtain ⟨o, ho, q, hq, e⟩ := hp.1 hf
        rw [e] at hf ⊢
        have := ob na o ho q hq
        rw [hf] at this
        exact bothS_obj ho hq (ga.obw o ho) (gb.obw q hq) this
      | false =>
        obtain ⟨e, hall⟩ := hp.2 hf
        rw [e]
        exact bothS_no (vk_g (by omega)) no ha fun o ho q hq => (ob na o ho q hq).no (hall o ho q hq)

noncomputable def bothSt (x y a b : Ty) (v : Val) : St := ⟨79, [(8, .bx 5 0), (7, .bx 4 0), (6, .bx 3 0), (4, .bx 2 0), (3, .bx 1 0), (2, .bx 0 0)], [.row 27 (cellsV (vTy a)), .row 27 (cellsV (vTy b)), .row 33 zVal, .row 27 (cellsV (vTy x)), .row 27 (cellsV (vTy y)), .row 33 (cellsV (vVal v))]⟩
abbrev bothQ (r : Val × Bool) : Exit → St → Prop := RetF Tryz.prog TT Tryz.f14 0 (fun r' _ => r' = vVB r.1 r.2)
noncomputable abbrev bothC : Code := Tryz.f14.body.getD .skip
theorem laid_len {t : Ty} (h : t.objects.length ≤ maxRows) : (laid t).objects.length ≤ 140737488355328 := by
  unfold laid
  split
  · show 1 ≤ _; omega
  · exact h

set_option maxHeartbeats 8000000 in
theorem bothLoop (x y a b : Ty) (v : Val) (hx : x.objects.length ≤ 140737488355328) (hy : y.objects.length ≤ 140737488355328) {bo : Ob → Ob → Val × Bool}
    (ob : ∀ p ∈ x.objects, ∀ q ∈ y.objects, PCall Tryz.prog 46 [vOb p, vOb q] (vVB (bo p q).1 (bo p q).2)) : SExec Tryz.prog (restOf 6 bothC) (bothSt x y a b v) (bothQ (pickV bo x.objects y.objects)) := by
  refine fx_sound TTok mixed ?_
  unfold bothQ
  conv => whnf
  refine ⟨SExec.loop_i (ι := Nat × Val) (fun i => ⟨79, [(10, vInt i.1), (8, .bx 5 0), (7, .bx 4 0), (6, .bx 3 0), (4, .bx 2 0), (3, .bx 1 0), (2, .bx 0 0)], [.row 27 (cellsV (vTy a)), .row 27 (cellsV (vTy b)), .row 33 zVal, .row 27 (cellsV (vTy x)), .row 27 (cellsV (vTy y)), .row 33 (cellsV (vVal i.2))]⟩)
    (fun i => i.1 ≤ x.objects.length ∧ ∀ j (h : j < x.objects.length), j < i.1 → y.objects.find? (fun q => (bo x.objects[j] q).2) = none) (fun i => x.objects.length - i.1) (0, v) ⟨Nat.zero_le _, fun j _ h => absurd h (Nat.not_lt_zero j)⟩ (fun i => Nat.le_refl _)
    (St.subD_of rfl [] rfl rfl (.cons (.refl _) rfl (.cons (.refl _) rfl (.cons (.refl _) rfl (.cons (.refl _) rfl (.cons (.refl _) rfl (.cons (.refl _) rfl (.cons (.refl _) rfl .nil)))))))) ?_⟩
  rintro ⟨k, v⟩ ⟨hk, hI⟩
  refine fx_sound TTok mixed ?_
  conv => whnf
  refine bsel_intro (fun hlt => ?_) (fun hlt => ?_)
  · have hlt : k < x.objects.length := by simpa using hlt
    conv => whnf
    refine ⟨SExec.loop_i (ι := Nat × Val) (fun i => ⟨79, [(11, vInt i.1), (10, vInt k), (8, .bx 5 0), (7, .bx 4 0), (6, .bx 3 0), (4, .bx 2 0), (3, .bx 1 0), (2, .bx 0 0)], [.row 27 (cellsV (vTy a)), .row 27 (cellsV (vTy b)), .row 33 zVal, .row 27 (cellsV (vTy x)), .row 27 (cellsV (vTy y)), .row 33 (cellsV (vVal i.2))]⟩)
      (fun i => i.1 ≤ y.objects.length ∧ ∀ j (h : j < y.objects.length), j < i.1 → (bo x.objects[k] y.objects[j]).2 = false) (fun i => y.objects.length - i.1) (0, v) ⟨Nat.zero_le _, fun j _ h => absurd h (Nat.not_lt_zero j)⟩ (fun i => Nat.le_refl _)
      (St.subD_of rfl [] rfl rfl (.cons (.refl _) rfl (.cons (.refl _) rfl (.cons (.refl _) rfl (.cons (.refl _) rfl (.cons (.refl _) rfl (.cons (.refl _) rfl (.cons (.refl _) rfl (.cons (.refl _) rfl .nil))))))))) ?_⟩
    rintro ⟨i, v⟩ ⟨hi, hJ⟩
    refine fx_sound TTok mixed ?_
    conv => whnf
    refine bsel_intro (fun hlt2 => ?_) (fun hlt2 => ?_)
    · have hlt2 : i < y.objects.length := by simpa using hlt2
      have hc := ob _ (List.getElem_mem hlt) _ (List.getElem_mem hlt2)
      conv => whnf
      refine ⟨SExec.region_fG TTok mixed 0 0 (by decide +kernel) rfl rfl ?_⟩
      conv => whnf
      refine idxOb hlt rfl ?_
      conv => whnf
      refine idxOb hlt2 rfl ?_
      conv => whnf
      refine .inr (.inr ?_)
      conv => whnf
      refine hc.useP (.refl _) ?_
      conv => whnf
      refine bsel_intro (fun f1 => ?_) (fun f1 => ?_)
      · have f1 : (bo x.objects[k] y.objects[i]).2 = true := f1
        have e1 := find_at (p := fun q => (bo x.objects[k] q).2) hlt2 f1 hJ
        have e2 : x.objects.find? (fun o => (y.objects.find? (fun q => (bo o q).2)).isSome) = some x.objects[k] := find_at (p := fun o => (y.objects.find? (fun q => (bo o q).2)).isSome) hlt (by simp only [e1]; rfl) (fun j hj hjk => by rw [hI j hj hjk]; rfl)
        have e3 : pickV bo x.objects y.objects = bo x.objects[k] y.objects[i] := by unfold pickV; simp only [e2, e1]
        rw [e3]
        conv => whnf
        exact retP TTok rfl (.of_eq (by rw [f1]; rfl)) rfl
      · have f1 : (bo x.objects[k] y.objects[i]).2 = false := f1
        conv => whnf
        exact ⟨(i + 1, _), ⟨by omega, fun j hj hjk => by
          by_cases e : j = i
          · subst e; exact f1
          · exact hJ j hj (by omega)⟩, by show _ - (i + 1) < _ - i; omega, St.subD_of rfl [] rfl rfl (.cons (.of_eq (vInt_succ i (by omega))) rfl (.cons (.refl _) rfl (.cons (.refl _) rfl (.cons (.refl _) rfl (.cons (.refl _) rfl (.cons (.refl _) rfl (.cons (.refl _) rfl (.cons (.refl _) rfl .nil))))))))⟩
    · have hge : y.objects.length ≤ i := by simpa using hlt2
      have e1 : y.objects.find? (fun q => (bo x.objects[k] q).2) = none := List.find?_eq_none.2 fun q hq => by
        obtain ⟨j, hj, rfl⟩ := List.mem_iff_getElem.1 hq
        rw [hJ j hj (by omega)]; simp
      conv => whnf
      exact ⟨(k + 1, v), ⟨by omega, fun j hj hjk => by
        by_cases e : j = k
        · subst e; exact e1
        · exact hI j hj (by omega)⟩, by show _ - (k + 1) < _ - k; omega, St.subD_of rfl [] rfl rfl (.cons (.of_eq (vInt_succ k (by omega))) rfl (.cons (.refl _) rfl (.cons (.refl _) rfl (.cons (.refl _) rfl (.cons (.refl _) rfl (.cons (.refl _) rfl (.cons (.refl _) rfl .nil)))))))⟩
  · have hge : x.objects.length ≤ k := by simpa using hlt
    have e2 : x.objects.find? (fun o => (y.objects.find? (fun q => (bo o q).2)).isSome) = none := List.find?_eq_none.2 fun q hq => by
      obtain ⟨j, hj, rfl⟩ := List.mem_iff_getElem.1 hq
      rw [hI j hj (by omega)]; simp
    have e3 : pickV bo x.objects y.objects = (vk 0, false) := by unfold pickV; simp only [e2]
    rw [e3]
    conv => whnf
    exact retP TTok rfl (entVB (v := vk 0) (.refl _) (.refl _) (.refl _) rfl rfl) rfl

end Go.Ab
set_option linter.unusedVariables false
set_option linter.unusedSimpArgs false
set_option maxRecDepth 4000
namespace Go.Ab
open Go.Proofs

set_option maxHeartbeats 8000000 in
theorem both12_core (a b : Ty) (ga : Good a) (gb : Good b) {xv : Val} {xf : Bool} {bo : Ob → Ob → Val × Bool}
    (ar : ¬(a.all = true ∧ b.all = true) → ∀ (h1 : 0 < (laid a).arrays.length) (h2 : 0 < (laid b).arrays.length), PCall Tryz.prog 45 [vAr (laid a).arrays[0], vAr (laid b).arrays[0]] (vVB (barV (laid a).arrays[0] (laid b).arrays[0] xv xf).1 (barV (laid a).arrays[0] (laid b).arrays[0] xv xf).2))
    (ob : ¬(a.all = true ∧ b.all = true) → ∀ x ∈ (laid a).objects, ∀ y ∈ (laid b).objects, PCall Tryz.prog 46 [vOb x, vOb y] (vVB (bo x y).1 (bo x y).2)) :
    PCall Tryz.prog 14 [vTy a, vTy b] (vVB (bothV (laid a) (laid b) xv xf bo).1 (bothV (laid a) (laid b) xv xf bo).2) := by
  refine PCall.bd Tryz.func14 rfl (by decide) rfl rfl (fun hbd => ?_)
  have hba := laid_len (deep_of (hbd 0 (by simp))).bd.objects
  have hbb := laid_len (deep_of (hbd 1 (by simp))).bd.objects
  have sc := scalar12_ok (laid a) (laid b) ga.laidW gb.laidW
  have na : (scalV (laid a) (laid b)).2 = false → ¬(a.all = true ∧ b.all = true) := fun h hh => by
    have := ((scalV_ok ga.laidW gb.laidW).no h).1.1
    rw [laid_all hh.1, laid_all hh.2] at this
    exact this ⟨rfl, rfl⟩
  have e1 : (scalV (laid a) (laid b)).2 = true → bothV (laid a) (laid b) xv xf bo = scalV (laid a) (laid b) := fun h => by unfold bothV; rw [if_pos h]
  have e2 : (scalV (laid a) (laid b)).2 = false → ∀ (h1 : 0 < (laid a).arrays.length) (h2 : 0 < (laid b).arrays.length), (barV (laid a).arrays[0] (laid b).arrays[0] xv xf).2 = true → bothV (laid a) (laid b) xv xf bo = barV (laid a).arrays[0] (laid b).arrays[0] xv xf := fun h h1 h2 hf => by
    unfold bothV; rw [if_neg (by rw [h]; simp), dif_pos ⟨h1, h2, hf⟩]
  have e3 : (scalV (laid a) (laid b)).2 = false → (∀ (h1 : 0 < (laid a).arrays.length) (h2 : 0 < (laid b).arrays.length), (barV (laid a).arrays[0] (laid b).arrays[0] xv xf).2 = false) → bothV (laid a) (laid b) xv xf bo = pickV bo (laid a).objects (laid b).objects := fun h hf => by
    unfold bothV; rw [if_neg (by rw [h]; simp), dif_neg (fun ⟨h1, h2, h3⟩ => by rw [hf h1 h2] at h3; cases h3)]
  have la := laid12_ok a
  have lb := laid12_ok b
  generalize laid a = x at *
  generalize laid b = y at *
  generalize bothV x y xv xf bo = res at *
  generalize scalV x y = sv at *
  obtain ⟨sv, sf⟩ := sv
  refine PCall.of_cut TTok mixed 6 (c := bothC) Tryz.func14 rfl (by decide) rfl rfl ?_
  conv => whnf
  refine la.use (.refl _) ?_
  conv => whnf
  refine lb.use (.refl _) ?_
  conv => whnf
  refine sc.use (.refl _) ?_
  cases sf with
  | true =>
    rw [e1 rfl]
    conv => whnf
    exact retP TTok rfl (.of_eq rfl) rfl
  | false =>
    have na := na rfl
    have ar := ar na
    have ob := ob na
    have e2 := e2 rfl
    have e3 := e3 rfl
    clear e1
    have tail := fun v => bothLoop x y a b v hba hbb ob
    conv => whnf
    by_cases ha : 0 < x.arrays.length
    · refine bsel_true (by simpa [ofNat_cast] using ha) ?_
      conv => whnf
      by_cases hb : 0 < y.arrays.length
      · refine bsel_true (by simpa [ofNat_cast] using hb) ?_
        have ar := ar ha hb
        have e2 := e2 ha hb
        have e3 : (barV x.arrays[0] y.arrays[0] xv xf).2 = false → res = pickV bo x.objects y.objects := fun h => e3 fun _ _ => h
        conv => whnf
        refine ⟨SExec.region_fG TTok mixed 0 0 (by decide +kernel) rfl rfl ?_⟩
        conv => whnf
        refine idxAr (k := 0) ha rfl ?_
        conv => whnf
        refine idxAr (k := 0) hb rfl ?_
        conv => whnf
        refine .inr (.inr ?_)
        conv => whnf
        refine ar.useP (.refl _) ?_
        conv => whnf
        refine bsel_intro (fun f1 => ?_) (fun f1 => ?_)
        · have f1 : (barV x.arrays[0] y.arrays[0] xv xf).2 = true := f1
          rw [e2 f1]
          conv => whnf
          exact retP TTok rfl (.of_eq (by rw [f1]; rfl)) rfl
        · have f1 : (barV x.arrays[0] y.arrays[0] xv xf).2 = false := f1
          rw [e3 f1]
          conv => whnf
          exact SExec.sub (s' := bothSt x y a b (barV x.arrays[0] y.arrays[0] xv xf).1) (St.sub_of rfl rfl (.cons (.refl _) (.cons (.refl _) (.cons (.refl _) (.cons (.refl _) (.cons (.refl _) (.cons (.refl _) .nil))))))) (tail _)
      · refine bsel_false (by simpa [ofNat_cast] using hb) ?_
        rw [e3 fun _ h => absurd h hb]
        conv => whnf
        exact SExec.sub (s' := bothSt x y a b sv) (St.sub_of rfl rfl (.cons (.refl _) (.cons (.refl _) (.cons (.refl _) (.cons (.refl _) (.cons (.refl _) (.cons (.refl _) .nil))))))) (tail _)
    · refine bsel_false (by simpa [ofNat_cast] using ha) ?_
      rw [e3 fun h _ => absurd h ha]
      conv => whnf
      exact SExec.sub (s' := bothSt x y a b sv) (St.sub_of rfl rfl (.cons (.refl _) (.cons (.refl _) (.cons (.refl _) (.cons (.refl _) (.cons (.refl _) (.cons (.refl _) .nil))))))) (tail _)
end Go.Ab
set_option linter.unusedVariables false
set_option linter.unusedSimpArgs false
set_option maxRecDepth 4000
namespace Go.Ab
open Go.Proofs

theorem both_c : ∀ a b : Ty, Good a → Good b → BothC a b := by
  intro a b
  generalize hs : sz a + sz b = n
  induction n using Nat.strongRecOn generalizing a b with
  | _ n ih =>
  intro ga gb
  subst hs
  have hA : ¬(a.all = true ∧ b.all = true) → ∀ x ∈ (laid a).arrays, ∀ y ∈ (laid b).arrays, BothC x.item y.item := fun na x hx y hy => ih (sz x.item + sz y.item) (by
    have p := sz_item hx
    have q := sz_item hy
    by_cases ha : a.all = true
    · have := q.2 (fun h => na ⟨ha, h⟩); omega
    · have := p.2 ha; omega) _ _ rfl (ga.item x hx) (gb.item y hy)
  have hO : ¬(a.all = true ∧ b.all = true) → ∀ x ∈ (laid a).objects, ∀ y ∈ (laid b).objects, ∀ n, BothC (fieldO x n).1 (fieldO y n).1 := fun na x hx y hy n => ih (sz (fieldO x n).1 + sz (fieldO y n).1) (by
    have p := sz_field hx (ga.obw x hx) n
    have q := sz_field hy (gb.obw y hy) n
    by_cases ha : a.all = true
    · have := q.2 (fun h => na ⟨ha, h⟩); omega
    · have := p.2 ha; omega) _ _ rfl (ga.field x hx n) (gb.field y hy n)
  obtain ⟨xv, xf, hx⟩ : ∃ xv xf, ¬(a.all = true ∧ b.all = true) → ∀ (h1 : 0 < (laid a).arrays.length) (h2 : 0 < (laid b).arrays.length), PCall Tryz.prog 14 [vTy (laid a).arrays[0].item, vTy (laid b).arrays[0].item] (vVB xv xf) ∧ BothS (laid a).arrays[0].item (laid b).arrays[0].item xv xf := by
    by_cases h : ¬(a.all = true ∧ b.all = true) ∧ 0 < (laid a).arrays.length ∧ 0 < (laid b).arrays.length
    · obtain ⟨v, f, h1⟩ := hA h.1 _ (List.getElem_mem h.2.1) _ (List.getElem_mem h.2.2)
      exact ⟨v, f, fun _ _ _ => h1⟩
    · exact ⟨vk 0, false, fun na h1 h2 => absurd ⟨na, h1, h2⟩ h⟩
  have hbo : ∀ x y : Ob, ∃ p : Val × Bool, ¬(a.all = true ∧ b.all = true) → x ∈ (laid a).objects → y ∈ (laid b).objects → PCall Tryz.prog 46 [vOb x, vOb y] (vVB p.1 p.2) ∧ BothObS x y p.1 p.2 := fun x y => by
    by_cases h : ¬(a.all = true ∧ b.all = true) ∧ x ∈ (laid a).objects ∧ y ∈ (laid b).objects
    · obtain ⟨na, hx, hy⟩ := h
      have hq : ∀ n, ∃ q : Val × Bool, PCall Tryz.prog 14 [vTy (fieldO x n).1, vTy (fieldO y n).1] (vVB q.1 q.2) ∧ BothS (fieldO x n).1 (fieldO y n).1 q.1 q.2 := fun n => by
        obtain ⟨v, f, h⟩ := hO na x hx y hy n
        exact ⟨(v, f), h⟩
      have w : ObjW x y (names12 x y) (fun n => (hq n).choose.1) (fun n => (hq n).choose.2) := ⟨names12_of x y, by
        have := names12_len x y
        have := (ga.obw x hx).few
        have := (gb.obw y hy).few
        omega, fun n hn => (((names12_of x y).mem n).1 hn).elim (ga.utf x hx n) (gb.utf y hy n), fun n _ => (hq n).choose_spec.2⟩
      exact ⟨_, fun _ _ _ => ⟨bothObj12_ok x y (ga.obw x hx) (gb.obw y hy) w (fun n _ _ => (hq n).choose_spec.1), bobV_ok w⟩⟩
    · exact ⟨(vk 0, false), fun na hx hy => absurd ⟨na, hx, hy⟩ h⟩
  have ha5 : ∀ {t : Ty}, Good t → ∀ x ∈ (laid t).arrays, 0 ≤ x.min ∧ x.min ≤ 100000 := fun g x hx => by have := g.min x hx; omega
  exact ⟨_, _, both12_core a b ga gb (xv := xv) (xf := xf) (bo := fun x y => (hbo x y).choose) (fun na h1 h2 => bothArr12_ok _ _ (ha5 ga _ (List.getElem_mem h1)) (ha5 gb _ (List.getElem_mem h2)) (hx na h1 h2).1) (fun na x hx y hy => ((hbo x y).choose_spec na hx hy).1),
    bothV_ok ga gb (fun na h1 h2 => barV_ok (ha5 ga _ (List.getElem_mem h1)) (ha5 gb _ (List.getElem_mem h2)) (hx na h1 h2).2) (fun na x hx y hy => ((hbo x y).choose_spec na hx hy).2)⟩

/-! ### Some value -/
theorem entAll : EntV (.agg [.d (.lit (.bool true)), .d (.lit (.bool false)), .d (.lit (.bool false)), .d (.lit (.bool false)), .d (.lit (.slice none 0 0)), .d (.lit (.bool false)), .d (.lit (.slice none 0 0)), .d (.lit (.slice none 0 0)), .d (.lit (.slice none 0 0))]) (vTy tyAll) :=
  .agg (.cons (.refl _) (.cons (.refl _) (.cons (.refl _) (.cons (.refl _) (.cons .nil_sl (.cons (.refl _) (.cons .nil_sl (.cons .nil_sl (.cons .nil_sl .nil)))))))))
theorem apart_all {t : Ty} (h : ApartP t tyAll) (g : Good t) : Never t := top_apart (apart_sym h g.bw bw_all) rfl g.fm g.bw
/-- A value of a type that isn't never. -/
structure SomeS (t : Ty) (v : Val) : Prop where
  ok : Vg v
  isIn : ¬Never t → InT t v
theorem some12_ok (t : Ty) (g : Good t) : ∃ v, PCall Tryz.prog 64 [vTy t] (vVal v) ∧ SomeS t v := by
  obtain ⟨v, f, hc, hs⟩ := both_c t tyAll g good_all
  refine ⟨v, ?_, hs.ok, fun hn => ?_⟩
  · refine PCall.of_fx TTok mixed Tryz.func64 rfl (by decide) rfl rfl ?_
    conv => whnf
    refine hc.use (.cons (.refl _) (.cons entAll .nil)) ?_
    conv => whnf
    exact retP TTok rfl (.of_eq rfl) rfl
  · cases f with
    | true => exact (hs.yes rfl).1
    | false => exact absurd (apart_all (hs.no rfl) g) hn
theorem entObAll : EntV (.agg [.d (.lit (.slice none 0 0)), .d (.lit (.slice none 0 0)), .d (.lit (.slice none 0 0)), .d (.lit (.bool true)), .d (.lit (.bool false)), .d (.lit (.bool false)), .d (.lit (.bool false)), .d (.lit (.slice none 0 0)), .d (.lit (.bool false)), .d (.lit (.slice none 0 0)), .d (.lit (.slice none 0 0)), .d (.lit (.slice none 0 0))]) (vOb obOpen) :=
  .agg (.cons .nil_sl (.cons .nil_sl (.cons .nil_sl (.cons (.refl _) (.cons (.refl _) (.cons (.refl _) (.cons (.refl _) (.cons .nil_sl (.cons (.refl _) (.cons .nil_sl (.cons .nil_sl (.cons .nil_sl .nil))))))))))))
theorem obw_open : ObW obOpen := ⟨fun i j hi => absurd hi (Nat.not_lt_zero _), rfl, rfl, Nat.zero_le _⟩
/-- What is asked of an alternative. -/
structure GoodO (o : Ob) : Prop where
  w : ObW o
  ok : ObOk o
  field : ∀ n, Good (fieldO o n).1
  rest : Good o.rest
theorem someObj12_ok (o : Ob) (g : GoodO o) : ∃ v, PCall Tryz.prog 27 [vOb o] (vVal v) ∧ SomeObS o v := by
  have hq : ∀ n, ∃ q : Val × Bool, PCall Tryz.prog 14 [vTy (fieldO o n).1, vTy (fieldO obOpen n).1] (vVB q.1 q.2) ∧ BothS (fieldO o n).1 (fieldO obOpen n).1 q.1 q.2 := fun n => by
    obtain ⟨v, f, h⟩ := both_c (fieldO o n).1 (fieldO obOpen n).1 (g.field n) good_all
    exact ⟨(v, f), h⟩
  have hl := names12_len o obOpen
  have few := g.w.few
  have hl : (names12 o obOpen).length ≤ 2000 := by have : obOpen.names.length = 0 := rfl; omega
  have w : ObjW o obOpen (names12 o obOpen) (fun n => (hq n).choose.1) (fun n => (hq n).choose.2) := ⟨names12_of o obOpen, by omega, fun n hn => (((names12_of o obOpen).mem n).1 hn).elim (g.ok.rise.utf n) (fun h => by cases h), fun n _ => (hq n).choose_spec.2⟩
  have hc := bothObj12_ok o obOpen g.w obw_open w (fun n _ _ => (hq n).choose_spec.1)
  have hno : ¬NoneO o obOpen (names12 o obOpen) (fun n => (hq n).choose.2) := fun ⟨n, hn, hm, hf⟩ => by
    have hm' : (fieldO o n).2 = true := by simpa [muO, fieldO_open] using hm
    have := (hq n).choose_spec.2.no hf
    exact must_field g.ok g.w hm' (apart_all this (g.field n))
  have hk := objV_ok w _ (Nat.le_refl _) (fun j h _ hm => by
    cases hf : (hq (names12 o obOpen)[j]).choose.2 with
    | true => rfl
    | false => exact absurd ⟨_, List.getElem_mem h, hm, hf⟩ hno)
  rw [List.take_length] at hk
  have e : bobV o obOpen (names12 o obOpen) (fun n => (hq n).choose.1) (fun n => (hq n).choose.2) = (objV (muO o obOpen) (fun n => (hq n).choose.1) (names12 o obOpen), true) := by unfold bobV; rw [if_neg hno]
  rw [e] at hc
  generalize objV (muO o obOpen) (fun n => (hq n).choose.1) (names12 o obOpen) = v at *
  refine ⟨v, ?_, by have := hk.cnt; omega, hk.ok, hk.kind, (hk.done (Nat.le_refl _) w.names).1⟩
  refine PCall.of_fx TTok mixed Tryz.func27 rfl (by decide) rfl rfl ?_
  conv => whnf
  refine hc.use (.cons (.refl _) (.cons entObAll .nil)) ?_
  conv => whnf
  exact retP TTok rfl (.of_eq rfl) rfl
end Go.Ab
set_option linter.unusedVariables false
set_option linter.unusedSimpArgs false
set_option maxRecDepth 4000
namespace Go.Ab
open Go.Proofs

theorem bw_fit {t : Ty} (hd : Deep t) (h : FitF t) : Bw t := bw_of t hd ⟨2000, by omega, by omega, h.1⟩ h.2
/-- No part has more than one alternative. -/
inductive SingleP : Ty → Prop where
  | mk {t : Ty} (len : t.objects.length ≤ 1) (item : ∀ a ∈ t.arrays, SingleP a.item) (rest : ∀ o ∈ t.objects, SingleP o.rest) (field : ∀ o ∈ t.objects, ∀ f ∈ o.fields, SingleP f) : SingleP t
theorem SingleP.len {t : Ty} (h : SingleP t) : t.objects.length ≤ 1 := by cases h; assumption
theorem SingleP.item {t : Ty} (h : SingleP t) : ∀ a ∈ t.arrays, SingleP a.item := by cases h; assumption
theorem SingleP.rest {t : Ty} (h : SingleP t) : ∀ o ∈ t.objects, SingleP o.rest := by cases h; assumption
theorem SingleP.field {t : Ty} (h : SingleP t) : ∀ o ∈ t.objects, ∀ f ∈ o.fields, SingleP f := by cases h; assumption

set_option maxHeartbeats 2000000 in
theorem single_ok : ∀ t : Ty, PCall Tryz.prog 8 [vTy t] (vBool (tt (SingleP t))) := by
  intro t
  induction t using Ty.ind with
  | h t iha iho =>
  refine PCall.bd Tryz.func8 rfl (by decide) rfl rfl (fun hbd => ?_)
  have hdp := deep_of (hbd 0 (by simp))
  have hb := hdp.bd.arrays
  have hb2 := hdp.bd.objects
  simp only [maxRows] at hb hb2
  refine PCall.of_fx TTok mixed Tryz.func8 rfl (by decide) rfl rfl ?_
  conv => whnf
  refine bsel_intro (fun h1 => ?_) (fun h1 => ?_)
  · have h1 : 1 < t.objects.length := by
      simp [ofNat_cast] at h1; omega
    conv => whnf
    exact retB TTok rfl (tt_f fun h => by have := h.len; omega)
  have h1 : t.objects.length ≤ 1 := by
    simp [ofNat_cast] at h1; omega
  conv => whnf
  refine ⟨SExec.loop_p t.arrays.length (fun k => ∀ j (h : j < t.arrays.length), j < k → SingleP t.arrays[j].item) (fun k => ⟨62, [(3, vInt k), (1, .bx 0 0)], [.row 27 (cellsV (vTy t))]⟩) (fun j _ h => absurd h (Nat.not_lt_zero _))
    (fun k => Nat.le_refl _) (St.subD_of rfl [] rfl rfl (.cons (.refl _) rfl (.cons (.refl _) rfl .nil))) ?_⟩
  intro k hk hI
  refine fx_sound TTok mixed ?_
  conv => whnf
  refine bsel_intro (fun hlt => ?_) (fun hlt => ?_)
  · have hlt : k < t.arrays.length := by simpa using hlt
    have hm := List.getElem_mem hlt
    conv => whnf
    refine idxAr hlt rfl ?_
    conv => whnf
    refine (iha _ hm).use (.refl _) ?_
    conv => whnf
    refine bsel_intro (fun h2 => ?_) (fun h2 => ?_)
    · have h2 : ¬SingleP t.arrays[k].item := tt_not.1 (by simpa only [Bool.not_eq_true'] using h2)
      conv => whnf
      exact retB TTok rfl (tt_f fun h => h2 (h.item _ hm))
    · have h2 : SingleP t.arrays[k].item := tt_iff.1 (by simpa only [Bool.not_eq_false'] using h2)
      conv => whnf
      exact ⟨⟨hlt, all_next' (p := fun a => SingleP a.item) hlt hI h2⟩, St.subD_of rfl _ rfl rfl (.cons (.of_eq (vInt_succ k (by omega))) rfl (.cons (.refl _) rfl .nil))⟩
  have hge : t.arrays.length ≤ k := by simpa using hlt
  have hitem : ∀ a ∈ t.arrays, SingleP a.item := fun a ha => by
    obtain ⟨j, hj, rfl⟩ := List.mem_iff_getElem.1 ha
    exact hI j hj (by omega)
  clear hI
  conv => whnf
  refine ⟨SExec.loop_p t.objects.length (fun k => ∀ j (h : j < t.objects.length), j < k → SingleP t.objects[j].rest ∧ ∀ f ∈ t.objects[j].fields, SingleP f) (fun k => ⟨62, [(4, vInt k), (1, .bx 0 0)], [.row 27 (cellsV (vTy t))]⟩) (fun j _ h => absurd h (Nat.not_lt_zero _))
    (fun k => Nat.le_refl _) (St.subD_of rfl [] rfl rfl (.cons (.refl _) rfl (.cons (.refl _) rfl .nil))) ?_⟩
  intro k hk hI
  refine fx_sound TTok mixed ?_
  conv => whnf
  refine bsel_intro (fun hlt => ?_) (fun hlt => ?_)
  · have hlt : k < t.objects.length := by simpa using hlt
    have hm := List.getElem_mem hlt
    have hb3 := (ob_bd (deep_obj hdp hm)).fields
    simp only [maxRows] at hb3
    conv => whnf
    refine idxOb hlt rfl ?_
    conv => whnf
    refine ((iho _ hm).1).use (.refl _) ?_
    conv => whnf
    refine bsel_intro (fun h2 => ?_) (fun h2 => ?_)
    · have h2 : ¬SingleP t.objects[k].rest := tt_not.1 (by simpa only [Bool.not_eq_true'] using h2)
      conv => whnf
      exact retB TTok rfl (tt_f fun h => h2 (h.rest _ hm))
    have h2 : SingleP t.objects[k].rest := tt_iff.1 (by simpa only [Bool.not_eq_false'] using h2)
    conv => whnf
    refine ⟨SExec.loop_p t.objects[k].fields.length (fun i => ∀ j (h : j < t.objects[k].fields.length), j < i → SingleP t.objects[k].fields[j]) (fun i => ⟨62, [(5, vInt i), (4, vInt k), (1, .bx 0 0)], [.row 27 (cellsV (vTy t))]⟩) (fun j _ h => absurd h (Nat.not_lt_zero _))
      (fun k => Nat.le_refl _) (St.subD_of rfl [] rfl rfl (.cons (.refl _) rfl (.cons (.refl _) rfl (.cons (.refl _) rfl .nil)))) ?_⟩
    intro i hi hJ
    refine fx_sound TTok mixed ?_
    conv => whnf
    refine idxOb hlt rfl ?_
    conv => whnf
    refine bsel_intro (fun hlt2 => ?_) (fun hlt2 => ?_)
    · have hlt2 : i < t.objects[k].fields.length := by simpa using hlt2
      have hm2 := List.getElem_mem hlt2
      conv => whnf
      refine idxOb hlt rfl ?_
      conv => whnf
      refine idxTy hlt2 rfl ?_
      conv => whnf
      refine ((iho _ hm).2 _ hm2).use (.refl _) ?_
      conv => whnf
      refine bsel_intro (fun h3 => ?_) (fun h3 => ?_)
      · have h3 : ¬SingleP t.objects[k].fields[i] := tt_not.1 (by simpa only [Bool.not_eq_true'] using h3)
        conv => whnf
        exact retB TTok rfl (tt_f fun h => h3 (h.field _ hm _ hm2))
      · have h3 : SingleP t.objects[k].fields[i] := tt_iff.1 (by simpa only [Bool.not_eq_false'] using h3)
        conv => whnf
        exact ⟨⟨hlt2, all_next' (p := SingleP) hlt2 hJ h3⟩, St.subD_of rfl _ rfl rfl (.cons (.of_eq (vInt_succ i (by omega))) rfl (.cons (.refl _) rfl (.cons (.refl _) rfl .nil)))⟩
    · have hge2 : t.objects[k].fields.length ≤ i := by simpa using hlt2
      conv => whnf
      refine ⟨⟨hlt, all_next' (p := fun o => SingleP o.rest ∧ ∀ f ∈ o.fields, SingleP f) hlt hI ⟨h2, fun f hf => ?_⟩⟩, St.subD_of rfl _ rfl rfl (.cons (.of_eq (vInt_succ k (by omega))) rfl (.cons (.refl _) rfl .nil))⟩
      obtain ⟨j, hj, rfl⟩ := List.mem_iff_getElem.1 hf
      exact hJ j hj (by omega)
  · have hge : t.objects.length ≤ k := by simpa using hlt
    conv => whnf
    refine retB TTok rfl (tt_t (.mk h1 hitem (fun o ho => ?_) fun o ho => ?_))
    all_goals
      obtain ⟨j, hj, rfl⟩ := List.mem_iff_getElem.1 ho
    · exact (hI j hj (by omega)).1
    · exact (hI j hj (by omega)).2

set_option maxHeartbeats 2000000 in
theorem modest_ok : ∀ t : Ty, PCall Tryz.prog 7 [vTy t] (vBool (tt (ModT t))) := by
  intro t
  induction t using Ty.ind with
  | h t iha iho =>
  refine PCall.bd Tryz.func7 rfl (by decide) rfl rfl (fun hbd => ?_)
  have hdp := deep_of (hbd 0 (by simp))
  have hb := hdp.bd.arrays
  have hb2 := hdp.bd.objects
  simp only [maxRows] at hb hb2
  refine PCall.of_fx TTok mixed Tryz.func7 rfl (by decide) rfl rfl ?_
  conv => whnf
  refine ⟨SExec.loop_p t.arrays.length (fun k => ∀ j (h : j < t.arrays.length), j < k → t.arrays[j].min ≤ 4 ∧ t.arrays[j].max ≤ 8 ∧ ModT t.arrays[j].item) (fun k => ⟨76, [(3, vInt k), (1, .bx 0 0)], [.row 27 (cellsV (vTy t))]⟩) (fun j _ h => absurd h (Nat.not_lt_zero _))
    (fun k => Nat.le_refl _) (St.subD_of rfl [] rfl rfl (.cons (.refl _) rfl (.cons (.refl _) rfl .nil))) ?_⟩
  intro k hk hI
  refine fx_sound TTok mixed ?_
  conv => whnf
  refine bsel_intro (fun hlt => ?_) (fun hlt => ?_)
  · have hlt : k < t.arrays.length := by simpa using hlt
    have hm := List.getElem_mem hlt
    conv => whnf
    refine idxAr hlt rfl ?_
    conv => whnf
    refine bsel_intro (fun m1 => ?_) (fun m1 => ?_)
    case' refine_2 =>
      have m1 : 4 < t.arrays[k].min := by have m1 := m1; simp at m1; omega
      conv => whnf
      exact retB TTok rfl (tt_f fun h => by have := h.min _ hm; omega)
    have m1 : t.arrays[k].min ≤ 4 := by have m1 := m1; simp at m1; omega
    conv => whnf
    refine idxAr hlt rfl ?_
    conv => whnf
    refine bsel_intro (fun m2 => ?_) (fun m2 => ?_)
    case' refine_2 =>
      have m2 : 8 < t.arrays[k].max := by have m2 := m2; simp at m2; omega
      conv => whnf
      exact retB TTok rfl (tt_f fun h => by have := h.max _ hm; omega)
    have m2 : t.arrays[k].max ≤ 8 := by have m2 := m2; simp at m2; omega
    conv => whnf
    refine idxAr hlt rfl ?_
    conv => whnf
    refine (iha _ hm).use (.refl _) ?_
    conv => whnf
    refine bsel_intro (fun h2 => ?_) (fun h2 => ?_)
    · have h2 : ¬ModT t.arrays[k].item := tt_not.1 (by simpa only [Bool.not_eq_true'] using h2)
      conv => whnf
      exact retB TTok rfl (tt_f fun h => h2 (h.item _ hm))
    · have h2 : ModT t.arrays[k].item := tt_iff.1 (by simpa only [Bool.not_eq_false'] using h2)
      conv => whnf
      exact ⟨⟨hlt, all_next' (p := fun a : Ar => a.min ≤ 4 ∧ a.max ≤ 8 ∧ ModT a.item) hlt hI ⟨m1, m2, h2⟩⟩, St.subD_of rfl _ rfl rfl (.cons (.of_eq (vInt_succ k (by omega))) rfl (.cons (.refl _) rfl .nil))⟩
  have hge : t.arrays.length ≤ k := by simpa using hlt
  have hitem : ∀ a ∈ t.arrays, a.min ≤ 4 ∧ a.max ≤ 8 ∧ ModT a.item := fun a ha => by
    obtain ⟨j, hj, rfl⟩ := List.mem_iff_getElem.1 ha
    exact hI j hj (by omega)
  clear hI
  conv => whnf
  refine ⟨SExec.loop_p t.objects.length (fun k => ∀ j (h : j < t.objects.length), j < k → ModT t.objects[j].rest ∧ ∀ f ∈ t.objects[j].fields, ModT f) (fun k => ⟨76, [(4, vInt k), (1, .bx 0 0)], [.row 27 (cellsV (vTy t))]⟩) (fun j _ h => absurd h (Nat.not_lt_zero _))
    (fun k => Nat.le_refl _) (St.subD_of rfl [] rfl rfl (.cons (.refl _) rfl (.cons (.refl _) rfl .nil))) ?_⟩
  intro k hk hI
  refine fx_sound TTok mixed ?_
  conv => whnf
  refine bsel_intro (fun hlt => ?_) (fun hlt => ?_)
  · have hlt : k < t.objects.length := by simpa using hlt
    have hm := List.getElem_mem hlt
    have hb3 := (ob_bd (deep_obj hdp hm)).fields
    simp only [maxRows] at hb3
    conv => whnf
    refine idxOb hlt rfl ?_
    conv => whnf
    refine ((iho _ hm).1).use (.refl _) ?_
    conv => whnf
    refine bsel_intro (fun h2 => ?_) (fun h2 => ?_)
    · have h2 : ¬ModT t.objects[k].rest := tt_not.1 (by simpa only [Bool.not_eq_true'] using h2)
      conv => whnf
      exact retB TTok rfl (tt_f fun h => h2 (h.rest _ hm))
    have h2 : ModT t.objects[k].rest := tt_iff.1 (by simpa only [Bool.not_eq_false'] using h2)
    conv => whnf
    refine ⟨SExec.loop_p t.objects[k].fields.length (fun i => ∀ j (h : j < t.objects[k].fields.length), j < i → ModT t.objects[k].fields[j]) (fun i => ⟨76, [(5, vInt i), (4, vInt k), (1, .bx 0 0)], [.row 27 (cellsV (vTy t))]⟩) (fun j _ h => absurd h (Nat.not_lt_zero _))
      (fun k => Nat.le_refl _) (St.subD_of rfl [] rfl rfl (.cons (.refl _) rfl (.cons (.refl _) rfl (.cons (.refl _) rfl .nil)))) ?_⟩
    intro i hi hJ
    refine fx_sound TTok mixed ?_
    conv => whnf
    refine idxOb hlt rfl ?_
    conv => whnf
    refine bsel_intro (fun hlt2 => ?_) (fun hlt2 => ?_)
    · have hlt2 : i < t.objects[k].fields.length := by simpa using hlt2
      have hm2 := List.getElem_mem hlt2
      conv => whnf
      refine idxOb hlt rfl ?_
      conv => whnf
      refine idxTy hlt2 rfl ?_
      conv => whnf
      refine ((iho _ hm).2 _ hm2).use (.refl _) ?_
      conv => whnf
      refine bsel_intro (fun h3 => ?_) (fun h3 => ?_)
      · have h3 : ¬ModT t.objects[k].fields[i] := tt_not.1 (by simpa only [Bool.not_eq_true'] using h3)
        conv => whnf
        exact retB TTok rfl (tt_f fun h => h3 (h.field _ hm _ hm2))
      · have h3 : ModT t.objects[k].fields[i] := tt_iff.1 (by simpa only [Bool.not_eq_false'] using h3)
        conv => whnf
        exact ⟨⟨hlt2, all_next' (p := ModT) hlt2 hJ h3⟩, St.subD_of rfl _ rfl rfl (.cons (.of_eq (vInt_succ i (by omega))) rfl (.cons (.refl _) rfl (.cons (.refl _) rfl .nil)))⟩
    · have hge2 : t.objects[k].fields.length ≤ i := by simpa using hlt2
      conv => whnf
      refine ⟨⟨hlt, all_next' (p := fun o => ModT o.rest ∧ ∀ f ∈ o.fields, ModT f) hlt hI ⟨h2, fun f hf => ?_⟩⟩, St.subD_of rfl _ rfl rfl (.cons (.of_eq (vInt_succ k (by omega))) rfl (.cons (.refl _) rfl .nil))⟩
      obtain ⟨j, hj, rfl⟩ := List.mem_iff_getElem.1 hf
      exact hJ j hj (by omega)
  · have hge : t.objects.length ≤ k := by simpa using hlt
    conv => whnf
    refine retB TTok rfl (tt_t (.mk (fun a ha => (hitem a ha).1) (fun a ha => (hitem a ha).2.1) (fun a ha => (hitem a ha).2.2) (fun o ho => ?_) fun o ho => ?_))
    all_goals
      obtain ⟨j, hj, rfl⟩ := List.mem_iff_getElem.1 ho
    · exact (hI j hj (by omega)).1
    · exact (hI j hj (by omega)).2
end Go.Ab
set_option linter.unusedVariables false
set_option linter.unusedSimpArgs false
set_option maxRecDepth 4000
namespace Go.Ab
open Go.Proofs

theorem height_fit {t : Ty} (hd : Deep t) (h : FitF t) : t.height ≤ 1000000 := by have := (pt_ok t hd 2000 (by omega) (by omega)).high h.1; have := h.1; omega
set_option maxHeartbeats 4000000 in
theorem apartWhole_ok (a b : Ty) (sa : SmT a) (sb : SmT b) : PCall Tryz.prog 4 [vTy a, vTy b] (vBool true) := by
  refine PCall.bd Tryz.func4 rfl (by decide) rfl rfl (fun hbd => ?_)
  have da := deep_of (hbd 0 (by simp))
  have db := deep_of (hbd 1 (by simp))
  refine PCall.of_fx TTok mixed Tryz.func4 rfl (by decide) rfl rfl ?_
  conv => whnf
  refine lives12_ok.use .nil ?_
  conv => whnf
  refine (formed12_ok a).use (.refl _) ?_
  conv => whnf
  refine bsel_intro (fun h1 => ?_) (fun h1 => ?_)
  case' refine_2 =>
    conv => whnf
    exact retB TTok rfl rfl
  have h1 : FitF a := tt_iff.1 (by simpa using h1)
  conv => whnf
  refine (formed12_ok b).use (.refl _) ?_
  conv => whnf
  refine bsel_intro (fun h2 => ?_) (fun h2 => ?_)
  case' refine_2 =>
    conv => whnf
    exact retB TTok rfl rfl
  have h2 : FitF b := tt_iff.1 (by simpa using h2)
  conv => whnf
  refine (modest_ok a).use (.refl _) ?_
  conv => whnf
  refine bsel_intro (fun h3 => ?_) (fun h3 => ?_)
  case' refine_2 =>
    conv => whnf
    exact retB TTok rfl rfl
  have h3 : ModT a := tt_iff.1 (by simpa using h3)
  conv => whnf
  refine (modest_ok b).use (.refl _) ?_
  conv => whnf
  refine bsel_intro (fun h4 => ?_) (fun h4 => ?_)
  case' refine_2 =>
    conv => whnf
    exact retB TTok rfl rfl
  have h4 : ModT b := tt_iff.1 (by simpa using h4)
  conv => whnf
  refine (refHeight_ok a (height_fit da h1)).use (.refl _) ?_
  conv => whnf
  refine bsel_intro (fun h5 => ?_) (fun h5 => ?_)
  case' refine_2 =>
    conv => whnf
    exact retB TTok rfl rfl
  conv => whnf
  refine (refHeight_ok b (height_fit db h2)).use (.refl _) ?_
  conv => whnf
  refine bsel_intro (fun h6 => ?_) (fun h6 => ?_)
  · conv => whnf
    exact retB TTok rfl rfl
  have ga : Good a := ⟨bw_fit da h1, h1.2, h3, sa⟩
  have gb : Good b := ⟨bw_fit db h2, h2.2, h4, sb⟩
  obtain ⟨v, f, hc, hs⟩ := both_c a b ga gb
  have cq := apart_c ga.bw gb.bw
  unfold ApaC at cq
  have hv := vformed_ok v
  rw [tt_iff.2 hs.ok.ok] at hv
  have ca := in_ok a (inOk_of a h1.2) v hs.ok.ok
  have cb := in_ok b (inOk_of b h2.2) v hs.ok.ok
  conv => whnf
  refine hc.use (.refl _) ?_
  conv => whnf
  refine cq.use (.refl _) ?_
  cases f with
  | true =>
    obtain ⟨ia, ib⟩ := hs.yes rfl
    rw [tt_not.2 fun h => apart_no h ga.bw gb.bw v hs.ok.ok ia ib]
    rw [tt_iff.2 ia] at ca
    rw [tt_iff.2 ib] at cb
    conv => whnf
    refine hv.use (.refl _) ?_
    conv => whnf
    refine ca.use (.refl _) ?_
    conv => whnf
    refine cb.use (.refl _) ?_
    conv => whnf
    exact retB TTok rfl rfl
  | false =>
    rw [tt_iff.2 (hs.no rfl)]
    conv => whnf
    exact retB TTok rfl rfl
end Go.Ab
