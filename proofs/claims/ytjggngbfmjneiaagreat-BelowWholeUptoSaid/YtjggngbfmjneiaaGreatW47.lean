import Derived.Test.YtjggngbfmjneiaaGreatW46
set_option linter.unusedVariables false
set_option linter.unusedSimpArgs false
set_option maxRecDepth 4000
namespace Go.Ab
open Go.Proofs

set_option maxHeartbeats 2000000 in
theorem aarrays_ok (a b : Ty) (hc : ∀ x ∈ a.arrays, ∀ y ∈ b.arrays, ApaC x.item y.item) : PCall Tryz.prog 50 [vTy a, vTy b] (vBool (tt (ArrsAp a b))) := by
  refine PCall.of_fx TTok mixed Tryz.func50 rfl (by decide) rfl rfl ?_
  conv => whnf
  by_cases ha : 0 < a.arrays.length
  · refine bsel_true (by cases hx : a.arrays with | nil => (simp [hx] at ha) | cons y l => (simp [ofNat_cast]; omega)) ?_
    conv => whnf
    by_cases hb : 0 < b.arrays.length
    · refine bsel_false (by cases hx : b.arrays with | nil => (simp [hx] at hb) | cons y l => (simp [ofNat_cast]; omega)) ?_
      have h1 := hc _ (List.getElem_mem ha) _ (List.getElem_mem hb)
      conv => whnf
      refine ⟨SExec.region_fE TTok mixed 2 (by decide +kernel) rfl rfl ?_⟩
      conv => whnf
      refine idxAr (k := 0) ha rfl ?_
      conv => whnf
      refine idxAr (k := 0) hb rfl ?_
      conv => whnf
      have el : (if b.arrays[0].min > a.arrays[0].min then b.arrays[0].min else a.arrays[0].min) = leastA a.arrays[0] b.arrays[0] := rfl
      refine bsel_intro (fun m1 => ?_) (fun m1 => ?_)
      · have m1 : 0 ≤ a.arrays[0].max := by simpa using m1
        conv => whnf
        refine bsel_intro (fun m2 => ?_) (fun m2 => ?_)
        case' refine_2 =>
          have m2 : a.arrays[0].max < leastA a.arrays[0] b.arrays[0] := of_decide_eq_true (by have z := m2; simp only [beq_false, Bool.not_eq_false', beq_true] at z; exact z)
          have yes : NoLen a.arrays[0] b.arrays[0] := .inl ⟨m1, m2⟩
          conv => whnf
          exact retB TTok rfl (tt_t ⟨fun _ _ h => absurd yes h, fun _ _ h => absurd yes h⟩)
        have m2 : ¬a.arrays[0].max < leastA a.arrays[0] b.arrays[0] := of_decide_eq_false (by have z := m2; simp only [beq_false, Bool.not_eq_true', beq_true] at z; exact z)
        conv => whnf
        refine bsel_intro (fun m3 => ?_) (fun m3 => ?_)
        · have m3 : 0 ≤ b.arrays[0].max := by simpa using m3
          conv => whnf
          refine bsel_intro (fun m4 => ?_) (fun m4 => ?_)
          · have m4 : b.arrays[0].max < leastA a.arrays[0] b.arrays[0] := of_decide_eq_true (by exact m4)
            have yes : NoLen a.arrays[0] b.arrays[0] := .inr ⟨m3, m4⟩
            conv => whnf
            exact retB TTok rfl (tt_t ⟨fun _ _ h => absurd yes h, fun _ _ h => absurd yes h⟩)
          have m4 : ¬b.arrays[0].max < leastA a.arrays[0] b.arrays[0] := of_decide_eq_false (by exact m4)
          have no : ¬NoLen a.arrays[0] b.arrays[0] := by
            unfold NoLen
            omega
          conv => whnf
          refine bsel_intro (fun m5 => ?_) (fun m5 => ?_)
          · have m5 : leastA a.arrays[0] b.arrays[0] > 0 := of_decide_eq_true (by have z := m5; simp only [beq_true] at z; exact z)
            conv => whnf
            refine h1.use (.refl _) ?_
            conv => whnf
            exact retB TTok rfl (tt_congr ⟨fun h => ⟨fun _ _ _ => m5, fun _ _ _ => h⟩, fun h => h.item ha hb no⟩)
          · have m5 : ¬leastA a.arrays[0] b.arrays[0] > 0 := of_decide_eq_false (by have z := m5; simp only [beq_true] at z; exact z)
            conv => whnf
            exact retB TTok rfl (tt_f fun h => m5 (h.len ha hb no))
        · have m3 : b.arrays[0].max < 0 := by simpa using m3
          have no : ¬NoLen a.arrays[0] b.arrays[0] := by
            unfold NoLen
            omega
          conv => whnf
          refine bsel_intro (fun m5 => ?_) (fun m5 => ?_)
          · have m5 : leastA a.arrays[0] b.arrays[0] > 0 := of_decide_eq_true (by have z := m5; simp only [beq_true] at z; exact z)
            conv => whnf
            refine h1.use (.refl _) ?_
            conv => whnf
            exact retB TTok rfl (tt_congr ⟨fun h => ⟨fun _ _ _ => m5, fun _ _ _ => h⟩, fun h => h.item ha hb no⟩)
          · have m5 : ¬leastA a.arrays[0] b.arrays[0] > 0 := of_decide_eq_false (by have z := m5; simp only [beq_true] at z; exact z)
            conv => whnf
            exact retB TTok rfl (tt_f fun h => m5 (h.len ha hb no))
      · have m1 : a.arrays[0].max < 0 := by simpa using m1
        conv => whnf
        refine bsel_intro (fun m3 => ?_) (fun m3 => ?_)
        · have m3 : 0 ≤ b.arrays[0].max := by simpa using m3
          conv => whnf
          refine bsel_intro (fun m4 => ?_) (fun m4 => ?_)
          · have m4 : b.arrays[0].max < leastA a.arrays[0] b.arrays[0] := of_decide_eq_true (by exact m4)
            have yes : NoLen a.arrays[0] b.arrays[0] := .inr ⟨m3, m4⟩
            conv => whnf
            exact retB TTok rfl (tt_t ⟨fun _ _ h => absurd yes h, fun _ _ h => absurd yes h⟩)
          have m4 : ¬b.arrays[0].max < leastA a.arrays[0] b.arrays[0] := of_decide_eq_false (by exact m4)
          have no : ¬NoLen a.arrays[0] b.arrays[0] := by
            unfold NoLen
            omega
          conv => whnf
          refine bsel_intro (fun m5 => ?_) (fun m5 => ?_)
          · have m5 : leastA a.arrays[0] b.arrays[0] > 0 := of_decide_eq_true (by have z := m5; simp only [beq_true] at z; exact z)
            conv => whnf
            refine h1.use (.refl _) ?_
            conv => whnf
            exact retB TTok rfl (tt_congr ⟨fun h => ⟨fun _ _ _ => m5, fun _ _ _ => h⟩, fun h => h.item ha hb no⟩)
          · have m5 : ¬leastA a.arrays[0] b.arrays[0] > 0 := of_decide_eq_false (by have z := m5; simp only [beq_true] at z; exact z)
            conv => whnf
            exact retB TTok rfl (tt_f fun h => m5 (h.len ha hb no))
        · have m3 : b.arrays[0].max < 0 := by simpa using m3
          have no : ¬NoLen a.arrays[0] b.arrays[0] := by
            unfold NoLen
            omega
          conv => whnf
          refine bsel_intro (fun m5 => ?_) (fun m5 => ?_)
          · have m5 : leastA a.arrays[0] b.arrays[0] > 0 := of_decide_eq_true (by have z := m5; simp only [beq_true] at z; exact z)
            conv => whnf
            refine h1.use (.refl _) ?_
            conv => whnf
            exact retB TTok rfl (tt_congr ⟨fun h => ⟨fun _ _ _ => m5, fun _ _ _ => h⟩, fun h => h.item ha hb no⟩)
          · have m5 : ¬leastA a.arrays[0] b.arrays[0] > 0 := of_decide_eq_false (by have z := m5; simp only [beq_true] at z; exact z)
            conv => whnf
            exact retB TTok rfl (tt_f fun h => m5 (h.len ha hb no))
    · refine bsel_true (by cases hx : b.arrays with | nil => simp | cons y l => (simp [hx] at hb)) ?_
      conv => whnf
      exact retB TTok rfl (tt_t ⟨fun h h' => absurd h' hb, fun h h' => absurd h' hb⟩)
  · refine bsel_false (by cases hx : a.arrays with | nil => simp | cons y l => (simp [hx] at ha)) ?_
    conv => whnf
    exact retB TTok rfl (tt_eq ⟨fun _ => ⟨fun h => absurd h ha, fun h => absurd h ha⟩, fun _ => by cases hx : a.arrays with | nil => simp | cons y l => (simp [hx] at ha)⟩)

theorem ApartP.of {a b : Ty} (h : WordsAp (laid a) (laid b) ∧ NumsAp (laid a) (laid b) ∧ TextsAp (laid a) (laid b) ∧ ArrsAp (laid a) (laid b) ∧ ObjsAp (laid a) (laid b)) : ApartP a b := apartP_iff.2 h
/-- A measure under which the children of a type's layout are no greater, and smaller where it is not every. -/
noncomputable def sz (t : Ty) : Nat := if t.all = true then 1 else SizeOf.sizeOf t
theorem sz_le (t : Ty) : sz t ≤ SizeOf.sizeOf t := by
  unfold sz
  split
  · cases t; simp; omega
  · exact Nat.le_refl _
theorem laid_all {t : Ty} (h : t.all = true) : laid t = tyLaid := by unfold laid; rw [if_pos h]
theorem laid_not {t : Ty} (h : ¬t.all = true) : laid t = t := by unfold laid; rw [if_neg h]
theorem sz_all {t : Ty} (h : t.all = true) : sz t = 1 := by unfold sz; rw [if_pos h]
theorem sz_not {t : Ty} (h : ¬t.all = true) : sz t = SizeOf.sizeOf t := by unfold sz; rw [if_neg h]
theorem sz_item {t : Ty} {x : Ar} (hx : x ∈ (laid t).arrays) : sz x.item ≤ sz t ∧ (¬t.all = true → sz x.item < sz t) := by
  by_cases h : t.all = true
  · rw [laid_all h] at hx
    have hx : x ∈ [arOpen] := hx
    obtain rfl := List.mem_singleton.1 hx
    exact ⟨by rw [sz_all h]; exact Nat.le_refl _, fun h' => absurd h h'⟩
  · rw [laid_not h] at hx
    have := Ty.arr_lt hx
    have := sz_le x.item
    rw [sz_not h]
    exact ⟨by omega, fun _ => by omega⟩
theorem fieldO_open (n : ByteArray) : fieldO obOpen n = (tyAll, false) := rfl
theorem sz_field {t : Ty} {x : Ob} (hx : x ∈ (laid t).objects) (hw : ObW x) (n : ByteArray) : sz (fieldO x n).1 ≤ sz t ∧ (¬t.all = true → sz (fieldO x n).1 < sz t) := by
  by_cases h : t.all = true
  · rw [laid_all h] at hx
    have hx : x ∈ [obOpen] := hx
    obtain rfl := List.mem_singleton.1 hx
    exact ⟨by rw [sz_all h]; exact Nat.le_refl _, fun h' => absurd h h'⟩
  · rw [laid_not h] at hx
    have := fieldO_lt hx hw n
    have := sz_le (fieldO x n).1
    rw [sz_not h]
    exact ⟨by omega, fun _ => by omega⟩
set_option maxHeartbeats 2000000 in
theorem apart_ok (hN : NamesC) : ∀ a b : Ty, Bw a → Bw b → ApaC a b := by
  intro a b
  generalize hs : sz a + sz b = n
  induction n using Nat.strongRecOn generalizing a b with
  | _ n ih =>
  intro wa wb
  subst hs
  have wl := wa.laid
  cases wl with | mk nul itl obl rel fil =>
  have wl : Bw (laid a) := .mk nul itl obl rel fil
  have wm := wb.laid
  cases wm with | mk num itm obm rem fim =>
  have wm : Bw (laid b) := .mk num itm obm rem fim
  have H0 := awords_ok (laid a) (laid b)
  have H1 := anums_ok (laid a) (laid b) nul num
  have H2 := atexts_ok (laid a) (laid b)
  have nb : WordsAp (laid a) (laid b) → a.all = true → ¬b.all = true := fun h ha hb => by
    rw [laid_all ha, laid_all hb] at h
    exact h.1 ⟨rfl, rfl⟩
  have H3 := fun nb : a.all = true → ¬b.all = true => aarrays_ok (laid a) (laid b) fun x hx y hy => ih (sz x.item + sz y.item) (by
    have p := sz_item hx
    have q := sz_item hy
    by_cases ha : a.all = true
    · have := q.2 (nb ha); omega
    · have := p.2 ha; omega) x.item y.item rfl (itl x hx) (itm y hy)
  have H4 := fun nb : a.all = true → ¬b.all = true => aobjects_ok hN (laid a) (laid b) obl obm (fun x hx y hy n => ih (sz (fieldO x n).1 + sz (fieldO y n).1) (by
    have p := sz_field hx (obl x hx) n
    have q := sz_field hy (obm y hy) n
    by_cases ha : a.all = true
    · have := q.2 (nb ha); omega
    · have := p.2 ha; omega) _ _ rfl (wl.fieldO hx n) (wm.fieldO hy n))
  unfold ApaC
  rw [tt_congr apartP_iff]
  refine PCall.of_fx TTok mixed Tryz.func15 rfl (by decide) rfl rfl ?_
  conv => whnf
  refine ⟨SExec.region_fE TTok mixed 2 (by decide +kernel) rfl rfl ?_⟩
  conv => whnf
  refine (laid_ok a).useQ (.refl _) ?_
  conv => whnf
  refine (laid_ok b).useQ (.refl _) ?_
  conv => whnf
  refine ⟨SExec.loop_p 5 (fun k => (0 < k → WordsAp (laid a) (laid b)) ∧ (1 < k → NumsAp (laid a) (laid b)) ∧ (2 < k → TextsAp (laid a) (laid b)) ∧ (3 < k → ArrsAp (laid a) (laid b)) ∧ (4 < k → ObjsAp (laid a) (laid b)))
    (fun k => ⟨23, [(14, vInt k), (13, .agg [.fn (.func 47) [] [], .fn (.func 48) [] [], .fn (.func 49) [] [], .fn (.func 50) [] [], .fn (.func 51) [] []]), (6, .bx 3 0), (5, .bx 2 0)], [.row 27 (cellsV (vTy a)), .row 27 (cellsV (vTy b)), .row 58 (cellsV (vTy (laid a))), .row 58 (cellsV (vTy (laid b)))]⟩) (by simp)
    (fun k => Nat.le_refl _) (St.subD_of rfl [] rfl rfl (.cons (.refl _) rfl (.cons (.refl _) rfl (.cons (.refl _) rfl (.cons (.refl _) rfl .nil))))) ?_⟩
  intro k hk ⟨i0, i1, i2, i3, i4⟩
  refine fx_sound TTok mixed ?_
  rcases (show k = 0 ∨ k = 1 ∨ k = 2 ∨ k = 3 ∨ k = 4 ∨ k = 5 by omega) with rfl | rfl | rfl | rfl | rfl | rfl
  · conv => whnf
    refine H0.use (.refl _) ?_
    conv => whnf
    refine bsel_intro (fun g => ?_) (fun g => ?_)
    · have g : ¬WordsAp (laid a) (laid b) := tt_not.1 (by simpa only [Bool.not_eq_true'] using g)
      conv => whnf
      exact retB TTok rfl (tt_f fun h => g h.1)
    · have g : WordsAp (laid a) (laid b) := tt_iff.1 (by simpa only [Bool.not_eq_false'] using g)
      conv => whnf
      exact ⟨⟨by omega, fun _ => g, fun h => absurd h (by omega), fun h => absurd h (by omega), fun h => absurd h (by omega), fun h => absurd h (by omega)⟩, St.subD_of rfl _ rfl rfl (.cons (.of_eq (vInt_succ 0 (by omega))) rfl (.cons (.refl _) rfl (.cons (.refl _) rfl (.cons (.refl _) rfl .nil))))⟩
  · conv => whnf
    refine H1.use (.refl _) ?_
    conv => whnf
    refine bsel_intro (fun g => ?_) (fun g => ?_)
    · have g : ¬NumsAp (laid a) (laid b) := tt_not.1 (by simpa only [Bool.not_eq_true'] using g)
      conv => whnf
      exact retB TTok rfl (tt_f fun h => g h.2.1)
    · have g : NumsAp (laid a) (laid b) := tt_iff.1 (by simpa only [Bool.not_eq_false'] using g)
      conv => whnf
      exact ⟨⟨by omega, fun _ => i0 (by omega), fun _ => g, fun h => absurd h (by omega), fun h => absurd h (by omega), fun h => absurd h (by omega)⟩, St.subD_of rfl _ rfl rfl (.cons (.of_eq (vInt_succ 1 (by omega))) rfl (.cons (.refl _) rfl (.cons (.refl _) rfl (.cons (.refl _) rfl .nil))))⟩
  · conv => whnf
    refine H2.use (.refl _) ?_
    conv => whnf
    refine bsel_intro (fun g => ?_) (fun g => ?_)
    · have g : ¬TextsAp (laid a) (laid b) := tt_not.1 (by simpa only [Bool.not_eq_true'] using g)
      conv => whnf
      exact retB TTok rfl (tt_f fun h => g h.2.2.1)
    · have g : TextsAp (laid a) (laid b) := tt_iff.1 (by simpa only [Bool.not_eq_false'] using g)
      conv => whnf
      exact ⟨⟨by omega, fun _ => i0 (by omega), fun _ => i1 (by omega), fun _ => g, fun h => absurd h (by omega), fun h => absurd h (by omega)⟩, St.subD_of rfl _ rfl rfl (.cons (.of_eq (vInt_succ 2 (by omega))) rfl (.cons (.refl _) rfl (.cons (.refl _) rfl (.cons (.refl _) rfl .nil))))⟩
  · conv => whnf
    refine (H3 (nb (i0 (by omega)))).use (.refl _) ?_
    conv => whnf
    refine bsel_intro (fun g => ?_) (fun g => ?_)
    · have g : ¬ArrsAp (laid a) (laid b) := tt_not.1 (by simpa only [Bool.not_eq_true'] using g)
      conv => whnf
      exact retB TTok rfl (tt_f fun h => g h.2.2.2.1)
    · have g : ArrsAp (laid a) (laid b) := tt_iff.1 (by simpa only [Bool.not_eq_false'] using g)
      conv => whnf
      exact ⟨⟨by omega, fun _ => i0 (by omega), fun _ => i1 (by omega), fun _ => i2 (by omega), fun _ => g, fun h => absurd h (by omega)⟩, St.subD_of rfl _ rfl rfl (.cons (.of_eq (vInt_succ 3 (by omega))) rfl (.cons (.refl _) rfl (.cons (.refl _) rfl (.cons (.refl _) rfl .nil))))⟩
  · conv => whnf
    refine (H4 (nb (i0 (by omega)))).use (.refl _) ?_
    conv => whnf
    refine bsel_intro (fun g => ?_) (fun g => ?_)
    · have g : ¬ObjsAp (laid a) (laid b) := tt_not.1 (by simpa only [Bool.not_eq_true'] using g)
      conv => whnf
      exact retB TTok rfl (tt_f fun h => g h.2.2.2.2)
    · have g : ObjsAp (laid a) (laid b) := tt_iff.1 (by simpa only [Bool.not_eq_false'] using g)
      conv => whnf
      exact ⟨⟨by omega, fun _ => i0 (by omega), fun _ => i1 (by omega), fun _ => i2 (by omega), fun _ => i3 (by omega), fun _ => g⟩, St.subD_of rfl _ rfl rfl (.cons (.of_eq (vInt_succ 4 (by omega))) rfl (.cons (.refl _) rfl (.cons (.refl _) rfl (.cons (.refl _) rfl .nil))))⟩
  · conv => whnf
    exact retB TTok rfl (tt_t ⟨i0 (by omega), i1 (by omega), i2 (by omega), i3 (by omega), i4 (by omega)⟩)

end Go.Ab
