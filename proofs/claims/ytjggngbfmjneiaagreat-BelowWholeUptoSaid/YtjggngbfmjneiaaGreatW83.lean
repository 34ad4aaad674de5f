import Derived.Test.YtjggngbfmjneiaaGreatW82
set_option linter.unusedVariables false
set_option linter.unusedSimpArgs false
set_option maxRecDepth 4000
namespace Go.Ab
open Go.Proofs

noncomputable def outSt (x a b : Ty) : St := ⟨134, [(6, .bx 3 0), (4, .bx 2 0), (3, .bx 1 0), (2, .bx 0 0)], [.row 27 (cellsV (vTy a)), .row 27 (cellsV (vTy b)), .row 33 zVal, .row 27 (cellsV (vTy x))]⟩
abbrev outQ (r : Val × Bool) : Exit → St → Prop := RetF Tryz.prog TT Tryz.f10 0 (fun r' _ => r' = vVB r.1 r.2)
noncomputable abbrev outC : Code := Tryz.f10.body.getD .skip

set_option maxHeartbeats 8000000 in
theorem outLoop (x a b : Ty) (hx : x.objects.length ≤ 140737488355328) {so : Ob → Val} {oo : Ob → Ob → Val × Bool} (hso : ∀ o ∈ x.objects, PCall Tryz.prog 27 [vOb o] (vVal (so o)))
    (hl : ∀ o ∈ x.objects, ∀ q ∈ b.objects, PCall Tryz.prog 28 [vOb o, vOb q] (vBool (tt (LiesP o q)))) (hoo : ∀ o ∈ x.objects, ∀ q ∈ b.objects, PCall Tryz.prog 29 [vOb o, vOb q] (vVB (oo o q).1 (oo o q).2)) :
    SExec Tryz.prog (restOf 9 outC) (outSt x a b) (outQ (oobjsV x b so oo)) := by
  have s1 : ¬0 < b.objects.length → ∀ h : 0 < x.objects.length, oobjsV x b so oo = (so x.objects[0], true) := fun hb h => by
    have hb : b.objects = [] := List.eq_nil_of_length_eq_zero (by omega)
    obtain ⟨o, l, e⟩ : ∃ o l, x.objects = o :: l := List.exists_cons_of_length_pos h
    have e0 : x.objects[0] = o := by simp [e]
    rw [e0]
    unfold oobjsV
    rw [hb, e]
  have s2 : ∀ (hb : 0 < b.objects.length) (k : Nat) (hk : k < x.objects.length), ¬LiesP x.objects[k] b.objects[0] → (∀ j (h : j < x.objects.length), j < k → LiesP x.objects[j] b.objects[0]) → oobjsV x b so oo = oo x.objects[k] b.objects[0] := fun hb k hk hn hj => by
    obtain ⟨q, l, e⟩ : ∃ o l, b.objects = o :: l := List.exists_cons_of_length_pos hb
    have e0 : b.objects[0] = q := by simp [e]
    rw [e0] at hn hj ⊢
    have := find_at (p := fun o => !tt (LiesP o q)) hk (by simp [tt_not.2 hn]) (fun j h h' => by simp [tt_iff.2 (hj j h h')])
    unfold oobjsV
    rw [e]
    dsimp only
    rw [this]
  have s3 : (∀ j (h : j < x.objects.length), ∃ h' : 0 < b.objects.length, LiesP x.objects[j] b.objects[0]) → oobjsV x b so oo = (vk 0, false) := fun hj => by
    unfold oobjsV
    cases hbo : b.objects with
    | nil =>
      cases hxo : x.objects with
      | nil => rfl
      | cons o l =>
        obtain ⟨h', _⟩ := hj 0 (by simp [hxo])
        simp [hbo] at h'
    | cons q l =>
      dsimp only
      have : x.objects.find? (fun o => !tt (LiesP o q)) = none := List.find?_eq_none.2 fun o ho => by
        obtain ⟨j, h, rfl⟩ := List.mem_iff_getElem.1 ho
        obtain ⟨h', hl⟩ := hj j h
        have e0 : b.objects[0] = q := by simp [hbo]
        rw [e0] at hl
        simp [tt_iff.2 hl]
      rw [this]
  generalize oobjsV x b so oo = res at *
  refine fx_sound TTok mixed ?_
  unfold outQ
  conv => whnf
  refine ⟨SExec.loop_p x.objects.length (fun k => ∀ j (h : j < x.objects.length), j < k → ∃ h' : 0 < b.objects.length, LiesP x.objects[j] b.objects[0]) (fun k => ⟨134, [(8, vInt k), (6, .bx 3 0), (4, .bx 2 0), (3, .bx 1 0), (2, .bx 0 0)], [.row 27 (cellsV (vTy a)), .row 27 (cellsV (vTy b)), .row 33 zVal, .row 27 (cellsV (vTy x))]⟩) (fun j _ h => absurd h (Nat.not_lt_zero j)) (fun k => Nat.le_refl _)
    (St.subD_of rfl [] rfl rfl (.cons (.refl _) rfl (.cons (.refl _) rfl (.cons (.refl _) rfl (.cons (.refl _) rfl (.cons (.refl _) rfl .nil)))))) ?_⟩
  intro k hk hI
  refine fx_sound TTok mixed ?_
  conv => whnf
  refine bsel_intro (fun hlt => ?_) (fun hlt => ?_)
  · have hlt : k < x.objects.length := by simpa using hlt
    have hm := List.getElem_mem hlt
    have hso := hso _ hm
    conv => whnf
    by_cases hb : 0 < b.objects.length
    case neg =>
      have hk0 : k = 0 := by
        rcases Nat.eq_zero_or_pos k with h | h
        · exact h
        · exact absurd (hI 0 (by omega) h).1 hb
      subst hk0
      rw [s1 hb hlt]
      refine bsel_true (by simp [ofNat_cast]; exact Classical.byContradiction fun x => hb (pos_iff.2 x)) ?_
      conv => whnf
      refine idxOb hlt rfl ?_
      conv => whnf
      refine hso.use (.refl _) ?_
      conv => whnf
      exact retP TTok rfl (.of_eq rfl) rfl
    have hm2 := List.getElem_mem hb
    have hl := hl _ hm _ hm2
    have hoo := hoo _ hm _ hm2
    refine bsel_false (by simp [ofNat_cast]; exact pos_iff.1 hb) ?_
    conv => whnf
    (refine ⟨by decide +kernel, ?_⟩; conv => whnf)
    refine idxOb hlt rfl ?_
    conv => whnf
    refine idxOb (k := 0) hb rfl ?_
    conv => whnf
    refine hl.useQ (.refl _) ?_
    conv => whnf
    refine bsel_intro (fun b1 => ?_) (fun b1 => ?_)
    · have b1 : ¬LiesP x.objects[k] b.objects[0] := tt_not.1 (by simpa only [Bool.not_eq_true'] using b1)
      rw [s2 hb k hlt b1 fun j h h' => (hI j h h').2]
      conv => whnf
      refine ⟨SExec.region_fG TTok mixed 0 0 (by decide +kernel) rfl rfl ?_⟩
      conv => whnf
      refine idxOb hlt rfl ?_
      conv => whnf
      refine idxOb (k := 0) hb rfl ?_
      conv => whnf
      refine .inr (.inr ?_)
      conv => whnf
      refine hoo.useP (.refl _) ?_
      conv => whnf
      exact retP TTok rfl (.of_eq rfl) rfl
    · have b1 : LiesP x.objects[k] b.objects[0] := tt_iff.1 (by simpa only [Bool.not_eq_false'] using b1)
      conv => whnf
      exact ⟨⟨hlt, fun j hj hjk => by
        by_cases e : j = k
        · subst e; exact ⟨hb, b1⟩
        · exact hI j hj (by omega)⟩, St.subD_of rfl _ rfl rfl (.cons (.of_eq (vInt_succ k (by omega))) rfl (.cons (.refl _) rfl (.cons (.refl _) rfl (.cons (.refl _) rfl (.cons (.refl _) rfl .nil)))))⟩
  · have hge : x.objects.length ≤ k := by simpa using hlt
    rw [s3 fun j h => hI j h (by omega)]
    conv => whnf
    exact retP TTok rfl (entVB (v := vk 0) (.refl _) (.refl _) (.refl _) rfl rfl) rfl
end Go.Ab
set_option linter.unusedVariables false
set_option linter.unusedSimpArgs false
set_option maxRecDepth 4000
namespace Go.Ab
open Go.Proofs

set_option maxHeartbeats 8000000 in
theorem outTail (x a b : Ty) (wx : ∀ s ∈ x.nums, SpOk s) (wb : ∀ s ∈ b.nums, SpOk s) {sv ov : Val} {of : Bool} {so : Ob → Val} {oo : Ob → Ob → Val × Bool}
    (hnum : ∀ h : 0 < x.nums.length, PCall Tryz.prog 22 [vSp x.nums[0], vSps b.nums] (vStr (outN x.nums[0] b.nums)))
    (htx : PCall Tryz.prog 24 [vTy x, vTy b] (vVal (vTxt (outT x b))))
    (hai : ∀ p ∈ x.arrays, ∀ q ∈ b.arrays, RBelC p.item q.item)
    (har : ∀ h : 0 < x.arrays.length, PCall Tryz.prog 26 [vAr x.arrays[0], vArs b.arrays] (vVB (oarV x.arrays[0] b.arrays sv ov of).1 (oarV x.arrays[0] b.arrays sv ov of).2))
    (tail : SExec Tryz.prog (restOf 9 outC) (outSt x a b) (outQ (oobjsV x b so oo))) :
    SExec Tryz.prog (restOf 6 outC) (outSt x a b) (outQ (out2V b x sv ov of so oo)) := by
  have r3 : ¬NumsIn x b → ∀ h : 0 < x.nums.length, out2V b x sv ov of so oo = (vNum (outN x.nums[0] b.nums), true) := fun h hl => by
    unfold out2V
    rw [if_pos h]
    simp [List.getD_eq_getElem?_getD, hl]
  have r4 : NumsIn x b → ¬TextsIn x b → out2V b x sv ov of so oo = (vTxt (outT x b), true) := fun h h4 => by
    unfold out2V
    rw [if_neg (fun g => g h), if_pos h4]
  have r5 : NumsIn x b → TextsIn x b → ¬ArrsIn x b → ∀ h : 0 < x.arrays.length, out2V b x sv ov of so oo = oarV x.arrays[0] b.arrays sv ov of := fun h h4 h5 hl => by
    unfold out2V
    rw [if_neg (fun g => g h), if_neg (fun g => g h4), if_pos h5]
    simp [List.getD_eq_getElem?_getD, hl]
  have r6 : NumsIn x b → TextsIn x b → ArrsIn x b → out2V b x sv ov of so oo = oobjsV x b so oo := fun h h4 h5 => by
    unfold out2V
    rw [if_neg (fun g => g h), if_neg (fun g => g h4), if_neg (fun g => g h5)]
  generalize out2V b x sv ov of so oo = res at *
  have H3 := texts12_ok x b
  have H4 := arrays12_ok x b hai
  have hcut : ∀ {s : St} {Q : Exit → St → Prop}, fxCut Tryz.prog TT 3 (restOf 6 outC) s (fun s' => SExec Tryz.prog (restOf 9 outC) s' Q) Q → SExec Tryz.prog (restOf 6 outC) s Q := fun h => fxCut_sound TTok mixed 3 h
  refine hcut ?_
  unfold outQ outSt at *
  conv => whnf
  (refine ⟨by decide +kernel, ?_⟩; conv => whnf)
  by_cases ha : 0 < x.nums.length
  · refine bsel_true (by simpa [ofNat_cast] using ha) ?_
    conv => whnf
    by_cases hb : 0 < b.nums.length
    case neg =>
      have hn : ¬NumsIn x b := fun h => hb (h ha).1
      refine bsel_false (by simp [ofNat_cast]; exact Classical.byContradiction fun x => hb (pos_iff.2 x)) ?_
      conv => whnf
      (refine ⟨by decide +kernel, ?_⟩; conv => whnf)
      refine idxSp (k := 0) ha rfl ?_
      conv => whnf
      refine (hnum ha).useQ (.refl _) ?_
      conv => whnf
      exact retP TTok rfl (entVB' (v := vNum (outN x.nums[0] b.nums)) (r3 hn ha) (.refl _) (.refl _) (.refl _) rfl rfl) rfl
    refine bsel_true (by simp [ofNat_cast]; exact pos_iff.1 hb) ?_
    conv => whnf
    refine idxSp (k := 0) ha rfl ?_
    conv => whnf
    refine idxSp (k := 0) hb rfl ?_
    conv => whnf
    refine (span12_ok _ _ (wx _ (List.getElem_mem ha)) (wb _ (List.getElem_mem hb))).useQ (.refl _) ?_
    conv => whnf
    refine bsel_intro (fun h7 => ?_) (fun h7 => ?_)
    · have h7 : ¬SpanIn x.nums[0] b.nums[0] := tt_not.1 (by simpa only [Bool.not_eq_true'] using h7)
      have hn : ¬NumsIn x b := fun h => h7 (h ha).2
      conv => whnf
      (refine ⟨by decide +kernel, ?_⟩; conv => whnf)
      refine idxSp (k := 0) ha rfl ?_
      conv => whnf
      refine (hnum ha).useQ (.refl _) ?_
      conv => whnf
      exact retP TTok rfl (entVB' (v := vNum (outN x.nums[0] b.nums)) (r3 hn ha) (.refl _) (.refl _) (.refl _) rfl rfl) rfl
    · have hn : NumsIn x b := fun _ => ⟨hb, tt_iff.1 (by simpa only [Bool.not_eq_false'] using h7)⟩
      conv => whnf
      refine H3.use (.refl _) ?_
      conv => whnf
      refine bsel_intro (fun h8 => ?_) (fun h8 => ?_)
      · have h8 : ¬TextsIn x b := tt_not.1 (by simpa only [Bool.not_eq_true'] using h8)
        rw [r4 hn h8]
        conv => whnf
        refine htx.use (.refl _) ?_
        conv => whnf
        exact retP TTok rfl (.of_eq rfl) rfl
      have h8 : TextsIn x b := tt_iff.1 (by simpa only [Bool.not_eq_false'] using h8)
      conv => whnf
      refine H4.use (.refl _) ?_
      conv => whnf
      refine bsel_intro (fun h9 => ?_) (fun h9 => ?_)
      · have h9 : ¬ArrsIn x b := tt_not.1 (by simpa only [Bool.not_eq_true'] using h9)
        have ha5 : 0 < x.arrays.length := by
          rcases Nat.eq_zero_or_pos x.arrays.length with e | e
          · exact absurd ⟨fun h => absurd h (by omega), fun h => absurd h (by omega), fun h => absurd h (by omega)⟩ h9
          · exact e
        rw [r5 hn h8 h9 ha5]
        conv => whnf
        refine ⟨SExec.region_fG TTok mixed 0 0 (by decide +kernel) rfl rfl ?_⟩
        conv => whnf
        refine idxAr (k := 0) ha5 rfl ?_
        conv => whnf
        refine .inr (.inr ?_)
        conv => whnf
        refine (har ha5).useP (.refl _) ?_
        conv => whnf
        exact retP TTok rfl (.of_eq rfl) rfl
      have h9 : ArrsIn x b := tt_iff.1 (by simpa only [Bool.not_eq_false'] using h9)
      rw [r6 hn h8 h9]
      conv => whnf
      exact SExec.sub (s' := outSt x a b) (St.sub_of rfl rfl (.cons (.refl _) (.cons (.refl _) (.cons (.refl _) (.cons (.refl _) .nil))))) tail
  · refine bsel_false (by simpa [ofNat_cast] using ha) ?_
    have hn : NumsIn x b := fun h => absurd h ha
    conv => whnf
    refine H3.use (.refl _) ?_
    conv => whnf
    refine bsel_intro (fun h8 => ?_) (fun h8 => ?_)
    · have h8 : ¬TextsIn x b := tt_not.1 (by simpa only [Bool.not_eq_true'] using h8)
      rw [r4 hn h8]
      conv => whnf
      refine htx.use (.refl _) ?_
      conv => whnf
      exact retP TTok rfl (.of_eq rfl) rfl
    have h8 : TextsIn x b := tt_iff.1 (by simpa only [Bool.not_eq_false'] using h8)
    conv => whnf
    refine H4.use (.refl _) ?_
    conv => whnf
    refine bsel_intro (fun h9 => ?_) (fun h9 => ?_)
    · have h9 : ¬ArrsIn x b := tt_not.1 (by simpa only [Bool.not_eq_true'] using h9)
      have ha5 : 0 < x.arrays.length := by
        rcases Nat.eq_zero_or_pos x.arrays.length with e | e
        · exact absurd ⟨fun h => absurd h (by omega), fun h => absurd h (by omega), fun h => absurd h (by omega)⟩ h9
        · exact e
      rw [r5 hn h8 h9 ha5]
      conv => whnf
      refine ⟨SExec.region_fG TTok mixed 0 0 (by decide +kernel) rfl rfl ?_⟩
      conv => whnf
      refine idxAr (k := 0) ha5 rfl ?_
      conv => whnf
      refine .inr (.inr ?_)
      conv => whnf
      refine (har ha5).useP (.refl _) ?_
      conv => whnf
      exact retP TTok rfl (.of_eq rfl) rfl
    have h9 : ArrsIn x b := tt_iff.1 (by simpa only [Bool.not_eq_false'] using h9)
    rw [r6 hn h8 h9]
    conv => whnf
    exact SExec.sub (s' := outSt x a b) (St.sub_of rfl rfl (.cons (.refl _) (.cons (.refl _) (.cons (.refl _) (.cons (.refl _) .nil))))) tail
end Go.Ab
set_option linter.unusedVariables false
set_option linter.unusedSimpArgs false
set_option maxRecDepth 4000
namespace Go.Ab
open Go.Proofs

set_option maxHeartbeats 8000000 in
theorem out12_core (a b : Ty) {sv ov : Val} {of : Bool} {so : Ob → Val} {oo : Ob → Ob → Val × Bool}
    (tail : b.all = false → SExec Tryz.prog (restOf 6 outC) (outSt (laid a) a b) (outQ (out2V b (laid a) sv ov of so oo))) :
    PCall Tryz.prog 10 [vTy a, vTy b] (vVB (outV a b (laid a) sv ov of so oo).1 (outV a b (laid a) sv ov of so oo).2) := by
  have q0 : Never a ∨ b.all = true → outV a b (laid a) sv ov of so oo = (vk 0, false) := fun h => by unfold outV; rw [if_pos h]
  have q1 : ¬(Never a ∨ b.all = true) → (laid a).null = true ∧ b.null = false → outV a b (laid a) sv ov of so oo = (vk 0, true) := fun h h1 => by unfold outV; rw [if_neg h, if_pos h1]
  have q2 : ¬(Never a ∨ b.all = true) → ¬((laid a).null = true ∧ b.null = false) → (laid a).fls = true ∧ b.fls = false → outV a b (laid a) sv ov of so oo = (vk 1, true) := fun h h1 h2 => by unfold outV; rw [if_neg h, if_neg h1, if_pos h2]
  have q3 : ¬(Never a ∨ b.all = true) → ¬((laid a).null = true ∧ b.null = false) → ¬((laid a).fls = true ∧ b.fls = false) → (laid a).tru = true ∧ b.tru = false → outV a b (laid a) sv ov of so oo = (vk 2, true) := fun h h1 h2 h3 => by unfold outV; rw [if_neg h, if_neg h1, if_neg h2, if_pos h3]
  have q4 : ¬(Never a ∨ b.all = true) → ¬((laid a).null = true ∧ b.null = false) → ¬((laid a).fls = true ∧ b.fls = false) → ¬((laid a).tru = true ∧ b.tru = false) → outV a b (laid a) sv ov of so oo = out2V b (laid a) sv ov of so oo := fun h h1 h2 h3 => by unfold outV; rw [if_neg h, if_neg h1, if_neg h2, if_neg h3]
  generalize outV a b (laid a) sv ov of so oo = res at *
  have la := laid12_ok a
  generalize laid a = x at *
  generalize out2V b x sv ov of so oo = res2 at *
  refine PCall.of_cut TTok mixed 6 (c := outC) Tryz.func10 rfl (by decide) rfl rfl ?_
  conv => whnf
  refine (never_ok a).use (.refl _) ?_
  conv => whnf
  refine bsel_intro (fun h0 => ?_) (fun h0 => ?_)
  case' refine_2 =>
    have h0 : Never a := tt_iff.1 (by simpa using h0)
    conv => whnf
    exact retP TTok rfl (entVB' (v := vk 0) (q0 (.inl h0)) (.refl _) (.refl _) (.refl _) rfl rfl) rfl
  have h0 : ¬Never a := tt_not.1 (by simpa using h0)
  conv => whnf
  refine bsel_intro (fun h1 => ?_) (fun h1 => ?_)
  · have h1 : b.all = true := h1
    conv => whnf
    exact retP TTok rfl (entVB' (v := vk 0) (q0 (.inr h1)) (.refl _) (.refl _) (.refl _) rfl rfl) rfl
  have h1 : b.all = false := h1
  have hn : ¬(Never a ∨ b.all = true) := fun h => h.elim h0 (by rw [h1]; simp)
  have tail := tail h1
  have q1 := q1 hn
  have q2 := q2 hn
  have q3 := q3 hn
  have q4 := q4 hn
  clear q0
  conv => whnf
  refine la.use (.refl _) ?_
  conv => whnf
  refine bsel_intro (fun p => ?_) (fun p => ?_)
  case' refine_1 =>
    have p : x.null = true := by simpa using p
    conv => whnf
    refine bsel_intro (fun q => ?_) (fun q => ?_)
    case' refine_1 =>
      have q : b.null = false := by simpa using q
      conv => whnf
      exact retP TTok rfl (entVB' (v := vk 0) (q1 ⟨p, q⟩) (.refl _) (.refl _) (.refl _) rfl rfl) rfl
    have n1 : ¬(x.null = true ∧ b.null = false) := fun h => by simp [h.2] at q
    clear p q
  case' refine_2 =>
    have n1 : ¬(x.null = true ∧ b.null = false) := fun h => by simp [h.1] at p
    clear p
  all_goals
    have q2 := q2 n1
    have q3 := q3 n1
    have q4 := q4 n1
    clear q1 n1
    conv => whnf
    refine bsel_intro (fun p => ?_) (fun p => ?_)
    case' refine_1 =>
      have p : x.fls = true := by simpa using p
      conv => whnf
      refine bsel_intro (fun q => ?_) (fun q => ?_)
      case' refine_1 =>
        have q : b.fls = false := by simpa using q
        conv => whnf
        exact retP TTok rfl (entVB' (v := vk 1) (q2 ⟨p, q⟩) (.refl _) (.refl _) (.refl _) rfl rfl) rfl
      have n1 : ¬(x.fls = true ∧ b.fls = false) := fun h => by simp [h.2] at q
      clear p q
    case' refine_2 =>
      have n1 : ¬(x.fls = true ∧ b.fls = false) := fun h => by simp [h.1] at p
      clear p
  all_goals
    have q3 := q3 n1
    have q4 := q4 n1
    clear q2 n1
    conv => whnf
    refine bsel_intro (fun p => ?_) (fun p => ?_)
    case' refine_1 =>
      have p : x.tru = true := by simpa using p
      conv => whnf
      refine bsel_intro (fun q => ?_) (fun q => ?_)
      case' refine_1 =>
        have q : b.tru = false := by simpa using q
        conv => whnf
        exact retP TTok rfl (entVB' (v := vk 2) (q3 ⟨p, q⟩) (.refl _) (.refl _) (.refl _) rfl rfl) rfl
      have n1 : ¬(x.tru = true ∧ b.tru = false) := fun h => by simp [h.2] at q
      clear p q
    case' refine_2 =>
      have n1 : ¬(x.tru = true ∧ b.tru = false) := fun h => by simp [h.1] at p
      clear p
  all_goals
    rw [q4 n1]
    conv => whnf
    exact SExec.sub (s' := outSt x a b) (St.sub_of rfl rfl (.cons (.refl _) (.cons (.refl _) (.cons (.refl _) (.cons (.refl _) .nil))))) tail

end Go.Ab
set_option linter.unusedVariables false
set_option linter.unusedSimpArgs false
set_option maxRecDepth 4000
namespace Go.Ab
open Go.Proofs

/-- Few texts, in every part. -/
inductive TxF : Ty → Prop where
  | mk {t : Ty} (texts : t.texts.length ≤ 1000000) (item : ∀ a ∈ t.arrays, TxF a.item) (rest : ∀ o ∈ t.objects, TxF o.rest) (field : ∀ o ∈ t.objects, ∀ f ∈ o.fields, TxF f) : TxF t
theorem TxF.texts {t : Ty} (h : TxF t) : t.texts.length ≤ 1000000 := by cases h; assumption
theorem TxF.item {t : Ty} (h : TxF t) : ∀ a ∈ t.arrays, TxF a.item := by cases h; assumption
theorem TxF.rest {t : Ty} (h : TxF t) : ∀ o ∈ t.objects, TxF o.rest := by cases h; assumption
theorem TxF.field {t : Ty} (h : TxF t) : ∀ o ∈ t.objects, ∀ f ∈ o.fields, TxF f := by cases h; assumption
theorem tx_of : ∀ t : Ty, Deep t → FewT t → TxF t := by
  intro t
  induction t using Ty.ind with
  | h t iha iho =>
  intro hd ⟨m, h0, hm, hle⟩
  have hb := hd.bd
  have b1 := hb.nums
  have b2 := hb.texts
  simp only [maxRows] at b1 b2
  have hA := ptAr h0 hm t.arrays (1 + t.texts.length + t.nums.length) (fun a ha => pt_ok a.item (deep_arr hd ha)) (by omega) (by simp only [capB]; omega)
  have hL : ∀ o ∈ t.objects, ObLe o := fun o ho => by
    have hob := deep_obj hd ho
    have hbo := ob_bd hob
    exact ⟨hbo.names, hbo.must, pt_ok _ (deep_rest hob), fun f hf => pt_ok f (deep_field hob hf)⟩
  have hO := ptOb h0 hm t.objects (Ar.ptL t.arrays (1 + t.texts.length + t.nums.length) m) hL (by omega) hA.2.1
  rw [Ty.pt_eq] at hle
  have fa := fewAr h0 hm t.arrays (1 + t.texts.length + t.nums.length) (fun a ha => pt_ok a.item (deep_arr hd ha)) (by omega) (by simp only [capB]; omega) (by omega)
  have fo := fewOb h0 hm t.objects _ hL (by omega) hA.2.1 hle
  exact .mk (by omega) (fun a ha => iha a ha (deep_arr hd ha) (fa a ha)) (fun o ho => (iho o ho).1 (deep_rest (deep_obj hd ho)) (fo o ho).2.1) fun o ho f hf => (iho o ho).2 f hf (deep_field (deep_obj hd ho) hf) ((fo o ho).2.2 f hf)

/-! ### The whole of Outside -/
def OutC (a b : Ty) : Prop := ∃ v f, PCall Tryz.prog 10 [vTy a, vTy b] (vVB v f) ∧ OutS a b v f
structure GoodB (t : Ty) : Prop where
  good : Good t
  single : SingleP t
  tx : TxF t
theorem GoodB.item {t : Ty} (h : GoodB t) (hn : t.all = false) : ∀ a ∈ t.arrays, GoodB a.item := fun a ha => ⟨h.good.item a (by rw [laid_not (by rw [hn]; simp)]; exact ha), h.single.item a ha, h.tx.item a ha⟩
theorem GoodB.rest {t : Ty} (h : GoodB t) (hn : t.all = false) : ∀ o ∈ t.objects, GoodB o.rest := fun o ho => ⟨h.good.rest o (by rw [laid_not (by rw [hn]; simp)]; exact ho), h.single.rest o ho, h.tx.rest o ho⟩
theorem GoodB.field {t : Ty} (h : GoodB t) (hn : t.all = false) : ∀ o ∈ t.objects, ∀ n, GoodB (fieldO o n).1 := fun o ho n => by
  have hm : o ∈ (laid t).objects := by rw [laid_not (by rw [hn]; simp)]; exact ho
  refine ⟨h.good.field o hm n, ?_, ?_⟩
  all_goals
    rcases fieldO_mem o n (h.good.obw o hm) with e | e
  · rw [e]; exact h.single.rest o ho
  · exact h.single.field o ho _ e
  · rw [e]; exact h.tx.rest o ho
  · exact h.tx.field o ho _ e

set_option maxHeartbeats 4000000 in
theorem out_c : ∀ a b : Ty, Good a → GoodB b → OutC a b := by
  intro a b
  generalize hs : sz a + sz b = n
  induction n using Nat.strongRecOn generalizing a b with
  | _ n ih =>
  intro ga gb
  subst hs
  have lb : b.all = false → laid b = b := fun h => laid_not (by rw [h]; simp)
  have hA : b.all = false → ∀ x ∈ (laid a).arrays, ∀ y ∈ b.arrays, OutC x.item y.item := fun hn x hx y hy => ih (sz x.item + sz y.item) (by
    have p := sz_item hx
    have q := (sz_item (t := b) (by rw [lb hn]; exact hy)).2 (by rw [hn]; simp)
    omega) _ _ rfl (ga.item x hx) (gb.item hn y hy)
  have hF : b.all = false → ∀ x ∈ (laid a).objects, ∀ y ∈ b.objects, ∀ n, OutC (fieldO x n).1 (fieldO y n).1 := fun hn x hx y hy n => ih (sz (fieldO x n).1 + sz (fieldO y n).1) (by
    have p := sz_field hx (ga.obw x hx) n
    have q := (sz_field (t := b) (by rw [lb hn]; exact hy) (gb.good.obw y (by rw [lb hn]; exact hy)) n).2 (by rw [hn]; simp)
    omega) _ _ rfl (ga.field x hx n) (gb.field hn y hy n)
  have hR : b.all = false → ∀ x ∈ (laid a).objects, ∀ y ∈ b.objects, OutC x.rest y.rest := fun hn x hx y hy => ih (sz x.rest + sz y.rest) (by
    have p := sz_rest hx
    have q := (sz_rest (t := b) (by rw [lb hn]; exact hy)).2 (by rw [hn]; simp)
    omega) _ _ rfl (ga.rest x hx) (gb.rest hn y hy)
  have goA : ∀ o ∈ (laid a).objects, GoodO o := fun o ho => ⟨ga.obw o ho, (fl_laid ga.fm).obj o ho, ga.field o ho, ga.rest o ho⟩
  obtain ⟨sv, hsv⟩ : ∃ sv, ∀ h : 0 < (laid a).arrays.length, PCall Tryz.prog 64 [vTy (laid a).arrays[0].item] (vVal sv) ∧ SomeS (laid a).arrays[0].item sv := by
    by_cases h : 0 < (laid a).arrays.length
    · obtain ⟨v, h1⟩ := some12_ok _ (ga.item _ (List.getElem_mem h))
      exact ⟨v, fun _ => h1⟩
    · exact ⟨vk 0, fun h' => absurd h' h⟩
  obtain ⟨ov, of, hov⟩ : ∃ ov of, b.all = false → ∀ (h : 0 < (laid a).arrays.length) (h' : 0 < b.arrays.length), PCall Tryz.prog 10 [vTy (laid a).arrays[0].item, vTy b.arrays[0].item] (vVB ov of) ∧ OutS (laid a).arrays[0].item b.arrays[0].item ov of := by
    by_cases h : b.all = false ∧ 0 < (laid a).arrays.length ∧ 0 < b.arrays.length
    · obtain ⟨v, f, h1⟩ := hA h.1 _ (List.getElem_mem h.2.1) _ (List.getElem_mem h.2.2)
      exact ⟨v, f, fun _ _ _ => h1⟩
    · exact ⟨vk 0, false, fun hn h1 h2 => absurd ⟨hn, h1, h2⟩ h⟩
  have hso : ∀ o : Ob, ∃ v, o ∈ (laid a).objects → PCall Tryz.prog 27 [vOb o] (vVal v) ∧ SomeObS o v := fun o => by
    by_cases h : o ∈ (laid a).objects
    · obtain ⟨v, h1⟩ := someObj12_ok o (goA o h)
      exact ⟨v, fun _ => h1⟩
    · exact ⟨vk 0, fun h' => absurd h' h⟩
  have hoo : ∀ x y : Ob, ∃ p : Val × Bool, b.all = false → x ∈ (laid a).objects → y ∈ b.objects → PCall Tryz.prog 29 [vOb x, vOb y] (vVB p.1 p.2) ∧ OutObS x y p.1 p.2 := fun x y => by
    by_cases h : b.all = false ∧ x ∈ (laid a).objects ∧ y ∈ b.objects
    · obtain ⟨hn, hx, hy⟩ := h
      have hy' : y ∈ (laid b).objects := by rw [lb hn]; exact hy
      have hq : ∀ n, ∃ q : Val × Bool, PCall Tryz.prog 10 [vTy (fieldO x n).1, vTy (fieldO y n).1] (vVB q.1 q.2) ∧ OutS (fieldO x n).1 (fieldO y n).1 q.1 q.2 := fun n => by
        obtain ⟨v, f, h⟩ := hF hn x hx y hy n
        exact ⟨(v, f), h⟩
      obtain ⟨rv, rf, r1, r2⟩ := hR hn x hx y hy
      obtain ⟨s1, s2⟩ := (hso x).choose_spec hx
      exact ⟨_, fun _ _ _ => ⟨outObj12_ok x y (ga.obw x hx) (gb.good.obw y hy') (ga.sm.laid.names x hx) (gb.good.sm.names y hy) (ga.utf x hx) (gb.good.utf y hy') s1 s2 (fun n => rbelow_c _ _ (ga.field x hx n).bw (gb.good.field y hy' n).bw) (fun n => (hq n).choose_spec.1) (fun n => (hq n).choose_spec.2.ok) r1 r2.ok,
        oobV_ok s2 (ga.utf x hx) (gb.good.utf y hy') (fun n => (hq n).choose_spec.2) r2⟩⟩
    · exact ⟨(vk 0, false), fun hn hx hy => absurd ⟨hn, hx, hy⟩ h⟩
  refine ⟨_, _, PCall.bd Tryz.func10 rfl (by decide) rfl rfl (fun hbd => ?_), outV_ok ga gb.good gb.single (sv := sv) (ov := ov) (of := of) (so := fun o => (hso o).choose) (oo := fun x y => (hoo x y).choose) (fun h => (hsv h).2) (fun hn h h' => (hov hn h h').2) (fun o ho => ((hso o).choose_spec ho).2) (fun hn x hx y hy => ((hoo x y).choose_spec hn hx hy).2)⟩
  have hba := laid_len (deep_of (hbd 0 (by simp))).bd.objects
  refine out12_core a b (fun hn => ?_)
  have hyb : ∀ y ∈ b.objects, y ∈ (laid b).objects := fun y hy => by rw [lb hn]; exact hy
  refine outTail (laid a) a b (bw_nums ga.bw.laid) (bw_nums gb.good.bw) (fun h => outNum12_ok _ _ ((fl_laid ga.fm).spans.ok _ (List.getElem_mem h)) (bw_nums gb.good.bw) (ga.sm.laid.nums _ (List.getElem_mem h)) gb.good.sm.nums)
    (outText12_ok _ _ gb.good.sm.texts gb.tx.texts) (fun p hp q hq => rbelow_c _ _ (ga.item p hp).bw (gb.item hn q hq).good.bw)
    (fun h => outArr12_ok _ _ (ga.min _ (List.getElem_mem h)).1 (ga.min _ (List.getElem_mem h)).2 (fun q hq => ⟨((fl_of gb.good.fm).arr q hq).max, gb.good.md.max q hq⟩) (hsv h).1 (fun h' => (hov hn h h').1))
    (outLoop (laid a) a b hba (fun o ho => ((hso o).choose_spec ho).1) (fun o ho q hq => lies12_ok o q (ga.obw o ho) (gb.good.obw q (hyb q hq)) (fun n => rbelow_c _ _ (ga.field o ho n).bw (gb.good.field q (hyb q hq) n).bw) (rbelow_c _ _ (ga.rest o ho).bw (gb.good.rest q (hyb q hq)).bw)) (fun x hx y hy => ((hoo x y).choose_spec hn hx hy).1))
end Go.Ab
set_option linter.unusedVariables false
set_option linter.unusedSimpArgs false
set_option maxRecDepth 4000
namespace Go.Ab
open Go.Proofs

theorem few_fit {t : Ty} (h : FitF t) : FewT t := ⟨2000, by omega, by omega, h.1⟩
set_option maxHeartbeats 4000000 in
theorem belowWhole_ok (a b : Ty) (sa : SmT a) (sb : SmT b) : PCall Tryz.prog 3 [vTy a, vTy b] (vBool true) := by
  refine PCall.bd Tryz.func3 rfl (by decide) rfl rfl (fun hbd => ?_)
  have da := deep_of (hbd 0 (by simp))
  have db := deep_of (hbd 1 (by simp))
  refine PCall.of_fx TTok mixed Tryz.func3 rfl (by decide) rfl rfl ?_
  conv => whnf
  refine lives12_ok.use .nil ?_
  conv => whnf
  refine (formed12_ok a).use (.refl _) ?_
  conv => whnf
  refine bsel_intro (fun h1 => ?_) (fun h1 => ?_)
  case' refine_2 =>
    conv => whnf
    exact retB TTok rfl rfl
  have h1 : FitF a := tt_iff.1 (by simpa using h1)
  conv => whnf
  refine (formed12_ok b).use (.refl _) ?_
  conv => whnf
  refine bsel_intro (fun h2 => ?_) (fun h2 => ?_)
  case' refine_2 =>
    conv => whnf
    exact retB TTok rfl rfl
  have h2 : FitF b := tt_iff.1 (by simpa using h2)
  conv => whnf
  refine (modest_ok a).use (.refl _) ?_
  conv => whnf
  refine bsel_intro (fun h3 => ?_) (fun h3 => ?_)
  case' refine_2 =>
    conv => whnf
    exact retB TTok rfl rfl
  have h3 : ModT a := tt_iff.1 (by simpa using h3)
  conv => whnf
  refine (modest_ok b).use (.refl _) ?_
  conv => whnf
  refine bsel_intro (fun h4 => ?_) (fun h4 => ?_)
  case' refine_2 =>
    conv => whnf
    exact retB TTok rfl rfl
  have h4 : ModT b := tt_iff.1 (by simpa using h4)
  conv => whnf
  refine (single_ok b).use (.refl _) ?_
  conv => whnf
  refine bsel_intro (fun h7 => ?_) (fun h7 => ?_)
  case' refine_2 =>
    conv => whnf
    exact retB TTok rfl rfl
  have h7 : SingleP b := tt_iff.1 (by simpa using h7)
  conv => whnf
  refine (refHeight_ok a (height_fit da h1)).use (.refl _) ?_
  conv => whnf
  refine bsel_intro (fun h5 => ?_) (fun h5 => ?_)
  case' refine_2 =>
    conv => whnf
    exact retB TTok rfl rfl
  conv => whnf
  refine (refHeight_ok b (height_fit db h2)).use (.refl _) ?_
  conv => whnf
  refine bsel_intro (fun h6 => ?_) (fun h6 => ?_)
  · conv => whnf
    exact retB TTok rfl rfl
  have ga : Good a := ⟨bw_fit da h1, h1.2, h3, sa⟩
  have gb : GoodB b := ⟨⟨bw_fit db h2, h2.2, h4, sb⟩, h7, tx_of b db (few_fit h2)⟩
  obtain ⟨v, f, hc, hs⟩ := out_c a b ga gb
  have cq := below_c ga.bw gb.good.bw
  unfold BelC at cq
  have hv := vformed_ok v
  rw [tt_iff.2 hs.ok.ok] at hv
  have ca := in_ok a (inOk_of a h1.2) v hs.ok.ok
  have cb := in_ok b (inOk_of b h2.2) v hs.ok.ok
  conv => whnf
  refine hc.use (.refl _) ?_
  conv => whnf
  refine cq.use (.refl _) ?_
  cases f with
  | true =>
    obtain ⟨ia, ib⟩ := hs.yes rfl
    rw [tt_not.2 fun h => ib (below_in h ga.bw gb.good.bw v hs.ok.ok ia)]
    rw [tt_iff.2 ia] at ca
    rw [tt_not.2 ib] at cb
    conv => whnf
    refine hv.use (.refl _) ?_
    conv => whnf
    refine ca.use (.refl _) ?_
    conv => whnf
    refine cb.use (.refl _) ?_
    conv => whnf
    exact retB TTok rfl rfl
  | false =>
    rw [tt_iff.2 (hs.no rfl)]
    conv => whnf
    exact retB TTok rfl rfl
end Go.Ab
