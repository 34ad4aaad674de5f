import Derived.Test.YtjggngbfmjneiaaGreatW40
set_option linter.unusedVariables false
set_option linter.unusedSimpArgs false
set_option maxRecDepth 4000
namespace Go.Ab
open Go.Proofs

/-- What Below answers, of two types. -/
def BelC (a b : Ty) : Prop := PCall Tryz.prog 11 [vTy a, vTy b] (vBool (tt (BelowP a b)))

theorem all_next' {α : Type} {p : α → Prop} {l : List α} {k : Nat} (hlt : k < l.length) (hI : ∀ j (h : j < l.length), j < k → p l[j]) (e : p l[k]) : ∀ j (h : j < l.length), j < k + 1 → p l[j] := fun j h hj => by
  by_cases ej : j = k
  · subst ej; exact e
  · exact hI j h (by omega)

theorem objects1_ok (hN : NamesC) (x y : Ob) (wx : ObW x) (wy : ObW y) (hc : ∀ n, BelC (fieldO x n).1 (fieldO y n).1) (hr : BelC x.rest y.rest) (o1 o2 : O) (hX : hpLt 3 [o1, o2, .row 44 (cellsV (vOb x))] = true) :
    HCall Tryz.prog 77 [vOb y, .bx 2 0] [o1, o2, .row 44 (cellsV (vOb x))] (vBool (tt (LiesP x y))) := by
  refine HCall.of_fx TTok mixed Tryz.func77 rfl (by decide) rfl ?_
  conv => whnf
  refine (lies_ok hN x y wx wy hc hr).use (.refl _) ?_
  conv => whnf
  exact retH (H := [o1, o2, .row 44 (cellsV (vOb x))]) (extra := [.row 44 (cellsV (vOb y))]) TTok rfl rfl hX (.of_eq rfl) rfl

set_option maxHeartbeats 2000000 in
theorem bobjects_ok (hN : NamesC) (a b : Ty) (wa : ∀ x ∈ a.objects, ObW x) (wb : ∀ y ∈ b.objects, ObW y) (hc : ∀ x ∈ a.objects, ∀ y ∈ b.objects, ∀ n, BelC (fieldO x n).1 (fieldO y n).1) (hr : ∀ x ∈ a.objects, ∀ y ∈ b.objects, BelC x.rest y.rest) :
    PCall Tryz.prog 35 [vTy a, vTy b] (vBool (tt (ObjsIn a b))) := by
  refine PCall.bd Tryz.func35 rfl (by decide) rfl rfl (fun hbd => ?_)
  have hb := (deep_of (hbd 0 (by simp))).bd.objects
  have hb2 := (deep_of (hbd 1 (by simp))).bd.objects
  simp only [maxRows] at hb hb2
  refine PCall.of_fx TTok mixed Tryz.func35 rfl (by decide) rfl rfl ?_
  conv => whnf
  refine ⟨SExec.loop_p a.objects.length (fun k => ∀ j (h : j < a.objects.length), j < k → ∃ y ∈ b.objects, LiesP a.objects[j] y) (fun k => ⟨20, [(10, vInt k), (9, vInt a.objects.length), (8, vObs a.objects), (3, .bx 1 0), (2, .bx 0 0)], [.row 58 (cellsV (vTy a)), .row 58 (cellsV (vTy b))]⟩) (fun j _ h => absurd h (Nat.not_lt_zero _))
    (fun k => Nat.le_refl _) (St.subD_of rfl [] rfl rfl (.cons (.refl _) rfl (.cons (.of_eq (vInt_len ..)) rfl (.cons (.refl _) rfl (.cons (.refl _) rfl (.cons (.refl _) rfl .nil)))))) ?_⟩
  intro k hk hI
  refine fx_sound TTok mixed ?_
  conv => whnf
  refine bsel_intro (fun hlt => ?_) (fun hlt => ?_)
  · have hlt : k < a.objects.length := by simpa using hlt
    have hm := List.getElem_mem hlt
    conv => whnf
    refine idxOb hlt rfl ?_
    conv => whnf
    refine (containsFuncO_ok _ (.bx 2 0) [] [.row 58 (cellsV (vTy a)), .row 58 (cellsV (vTy b)), .row 44 (cellsV (vOb a.objects[k]))] rfl rfl (fun y => tt (LiesP a.objects[k] y)) b.objects hb2 fun y hy => objects1_ok hN _ y (wa _ hm) (wb y hy) (hc _ hm y hy) (hr _ hm y hy) _ _ rfl).use (.refl _) ?_
    conv => whnf
    refine bsel_intro (fun h1 => ?_) (fun h1 => ?_)
    · have h1 : b.objects.any (fun y => tt (LiesP a.objects[k] y)) = false := by simpa only [Bool.not_eq_true'] using h1
      conv => whnf
      exact retB TTok rfl (tt_f fun h => by
        obtain ⟨y, hy, hl⟩ := h _ hm
        have := List.any_eq_false.1 h1 y hy
        exact this (tt_iff.2 hl))
    · have h1 : b.objects.any (fun y => tt (LiesP a.objects[k] y)) = true := by simpa only [Bool.not_eq_false'] using h1
      obtain ⟨y, hy, hl⟩ := List.any_eq_true.1 h1
      conv => whnf
      exact ⟨⟨hlt, all_next' (p := fun x => ∃ y ∈ b.objects, LiesP x y) hlt hI ⟨y, hy, tt_iff.1 hl⟩⟩, St.subD_of rfl _ rfl rfl (.cons (.of_eq (vInt_succ k (by omega))) rfl (.cons (.refl _) rfl (.cons (.refl _) rfl (.cons (.refl _) rfl (.cons (.refl _) rfl .nil)))))⟩
  · have hge : a.objects.length ≤ k := by simpa using hlt
    conv => whnf
    refine retB TTok rfl (tt_t fun x hx => ?_)
    obtain ⟨j, hj, rfl⟩ := List.mem_iff_getElem.1 hx
    exact hI j hj (by omega)

theorem barrays_ok (a b : Ty) (hc : ∀ x ∈ a.arrays, ∀ y ∈ b.arrays, BelC x.item y.item) : PCall Tryz.prog 34 [vTy a, vTy b] (vBool (tt (ArrsIn a b))) := by
  refine PCall.of_fx TTok mixed Tryz.func34 rfl (by decide) rfl rfl ?_
  conv => whnf
  by_cases ha : 0 < a.arrays.length
  · refine bsel_true (by cases hx : a.arrays with | nil => (simp [hx] at ha) | cons y l => (simp [ofNat_cast]; omega)) ?_
    conv => whnf
    by_cases hb : 0 < b.arrays.length
    · refine bsel_false (by cases hx : b.arrays with | nil => (simp [hx] at hb) | cons y l => (simp [ofNat_cast]; omega)) ?_
      have h1 := hc _ (List.getElem_mem ha) _ (List.getElem_mem hb)
      conv => whnf
      refine ⟨SExec.region_fE TTok mixed 2 (by decide +kernel) rfl rfl ?_⟩
      conv => whnf
      refine idxAr (k := 0) ha rfl ?_
      conv => whnf
      refine idxAr (k := 0) hb rfl ?_
      conv => whnf
      refine bsel_intro (fun m1 => ?_) (fun m1 => ?_)
      case' refine_2 =>
        have m1 : a.arrays[0].min < b.arrays[0].min := by simpa using m1
        conv => whnf
        exact retB TTok rfl (tt_f fun h => by have := (h.arr ha hb).min; omega)
      have m1 : b.arrays[0].min ≤ a.arrays[0].min := by simpa using m1
      conv => whnf
      refine bsel_intro (fun m2 => ?_) (fun m2 => ?_)
      · have m2 : 0 ≤ b.arrays[0].max := by simpa using m2
        conv => whnf
        refine bsel_intro (fun m3 => ?_) (fun m3 => ?_)
        case' refine_2 =>
          have m3 : a.arrays[0].max < 0 := by simpa using m3
          conv => whnf
          exact retB TTok rfl (tt_f fun h => by have := (h.arr ha hb).max m2; omega)
        have m3 : 0 ≤ a.arrays[0].max := by simpa using m3
        conv => whnf
        refine bsel_intro (fun m4 => ?_) (fun m4 => ?_)
        · have m4 : b.arrays[0].max < a.arrays[0].max := by simpa using m4
          conv => whnf
          exact retB TTok rfl (tt_f fun h => by have := (h.arr ha hb).max m2; omega)
        have m4 : a.arrays[0].max ≤ b.arrays[0].max := by simpa using m4
        have am : ArrIn a.arrays[0] b.arrays[0] := ⟨m1, fun _ => ⟨m3, m4⟩⟩
        conv => whnf
        refine bsel_intro (fun z => ?_) (fun z => ?_)
        · have z : a.arrays[0].max ≠ 0 := by simpa using z
          conv => whnf
          refine h1.use (.refl _) ?_
          conv => whnf
          exact retB TTok rfl (tt_congr ⟨fun h => ⟨fun _ => hb, fun _ _ => am, fun _ _ _ => h⟩, fun h => h.item ha hb z⟩)
        · have z : a.arrays[0].max = 0 := by simpa using z
          conv => whnf
          refine retB TTok rfl (tt_eq (by simp only [z]; exact ⟨fun _ => ⟨fun _ => hb, fun _ _ => am, fun _ _ h => absurd z h⟩, fun _ => by decide⟩))
      · have m2 : b.arrays[0].max < 0 := by simpa using m2
        have am : ArrIn a.arrays[0] b.arrays[0] := ⟨m1, fun h => by omega⟩
        conv => whnf
        refine bsel_intro (fun z => ?_) (fun z => ?_)
        · have z : a.arrays[0].max ≠ 0 := by simpa using z
          conv => whnf
          refine h1.use (.refl _) ?_
          conv => whnf
          exact retB TTok rfl (tt_congr ⟨fun h => ⟨fun _ => hb, fun _ _ => am, fun _ _ _ => h⟩, fun h => h.item ha hb z⟩)
        · have z : a.arrays[0].max = 0 := by simpa using z
          conv => whnf
          refine retB TTok rfl (tt_eq (by simp only [z]; exact ⟨fun _ => ⟨fun _ => hb, fun _ _ => am, fun _ _ h => absurd z h⟩, fun _ => by decide⟩))
    · refine bsel_true (by cases hx : b.arrays with | nil => simp | cons y l => (simp [hx] at hb)) ?_
      conv => whnf
      exact retB TTok rfl (tt_eq ⟨fun h => absurd h (by cases hx : a.arrays with | nil => (simp [hx] at ha) | cons y l => (simp [ofNat_cast]; omega)), fun h => absurd (h.len ha) hb⟩)
  · refine bsel_false (by cases hx : a.arrays with | nil => simp | cons y l => (simp [hx] at ha)) ?_
    conv => whnf
    exact retB TTok rfl (tt_eq ⟨fun _ => ⟨fun h => absurd h ha, fun h => absurd h ha, fun h => absurd h ha⟩, fun _ => by cases hx : a.arrays with | nil => simp | cons y l => (simp [hx] at ha)⟩)

set_option maxHeartbeats 2000000 in
theorem below_ok (hN : NamesC) : ∀ b : Ty, Bw b → ∀ a : Ty, Bw a → BelC a b := by
  intro b
  generalize hs : SizeOf.sizeOf b = n
  induction n using Nat.strongRecOn generalizing b with
  | _ n ih =>
  intro wb a wa
  subst hs
  have wl := wa.laid
  cases wb with | mk nub itb obb reb fib =>
  have wb : Bw b := .mk nub itb obb reb fib
  cases wl with | mk nul itl obl rel fil =>
  have wl : Bw (laid a) := .mk nul itl obl rel fil
  have H0 := bwords_ok (laid a) b
  have H1 := bnums_ok (laid a) b nul nub
  have H2 := btexts_ok (laid a) b
  have H3 := barrays_ok (laid a) b fun x hx y hy => ih _ (Ty.arr_lt hy) y.item rfl (itb y hy) x.item (itl x hx)
  have H4 := bobjects_ok hN (laid a) b obl obb (fun x hx y hy n => ih _ (fieldO_lt hy (obb y hy) n) _ rfl (wb.fieldO hy n) _ (wl.fieldO hx n)) fun x hx y hy => ih _ (Ty.rest_lt hy) y.rest rfl (reb y hy) x.rest (rel x hx)
  unfold BelC
  rw [tt_congr belowP_iff]
  refine PCall.of_fx TTok mixed Tryz.func11 rfl (by decide) rfl rfl ?_
  conv => whnf
  refine (bnever_ok a).use (.refl _) ?_
  conv => whnf
  refine bsel_intro (fun ha => ?_) (fun ha => ?_)
  case' refine_2 =>
    have ha : kinds a = 0 := by simpa using ha
    conv => whnf
    exact retB TTok rfl (tt_t (.inl ha))
  have ha : ¬kinds a = 0 := by simpa using ha
  conv => whnf
  refine bsel_intro (fun hb => ?_) (fun hb => ?_)
  · conv => whnf
    exact retB TTok rfl (tt_t (.inr (.inl hb)))
  have hb : ¬b.all = true := by simpa using hb
  conv => whnf
  refine ⟨SExec.loop_p 5 (fun k => (0 < k → WordsIn (laid a) b) ∧ (1 < k → NumsIn (laid a) b) ∧ (2 < k → TextsIn (laid a) b) ∧ (3 < k → ArrsIn (laid a) b) ∧ (4 < k → ObjsIn (laid a) b))
    (fun k => ⟨24, [(14, vInt k), (13, .agg [.fn (.func 31) [] [], .fn (.func 32) [] [], .fn (.func 33) [] [], .fn (.func 34) [] [], .fn (.func 35) [] []]), (3, .bx 1 0), (2, .bx 0 0)], [.row 27 (cellsV (vTy a)), .row 27 (cellsV (vTy b))]⟩) (by simp)
    (fun k => Nat.le_refl _) (St.subD_of rfl [] rfl rfl (.cons (.refl _) rfl (.cons (.refl _) rfl (.cons (.refl _) rfl (.cons (.refl _) rfl .nil))))) ?_⟩
  intro k hk ⟨i0, i1, i2, i3, i4⟩
  refine fx_sound TTok mixed ?_
  rcases (show k = 0 ∨ k = 1 ∨ k = 2 ∨ k = 3 ∨ k = 4 ∨ k = 5 by omega) with rfl | rfl | rfl | rfl | rfl | rfl
  · conv => whnf
    (refine ⟨by decide +kernel, ?_⟩; conv => whnf)
    refine (laid_ok a).useQ (.refl _) ?_
    conv => whnf
    refine H0.useQ (.refl _) ?_
    conv => whnf
    refine bsel_intro (fun g => ?_) (fun g => ?_)
    · have g : ¬WordsIn (laid a) b := tt_not.1 (by simpa only [Bool.not_eq_true'] using g)
      conv => whnf
      exact retB TTok rfl (tt_f fun h => by
        rcases h with h | h | ⟨w, n, t, ar, ob⟩
        · exact ha h
        · exact hb h
        · exact g w)
    · have g : WordsIn (laid a) b := tt_iff.1 (by simpa only [Bool.not_eq_false'] using g)
      conv => whnf
      exact ⟨⟨by omega, fun _ => g, fun h => absurd h (by omega), fun h => absurd h (by omega), fun h => absurd h (by omega), fun h => absurd h (by omega)⟩, St.subD_of rfl _ rfl rfl (.cons (.of_eq (vInt_succ 0 (by omega))) rfl (.cons (.refl _) rfl (.cons (.refl _) rfl (.cons (.refl _) rfl .nil))))⟩
  · conv => whnf
    (refine ⟨by decide +kernel, ?_⟩; conv => whnf)
    refine (laid_ok a).useQ (.refl _) ?_
    conv => whnf
    refine H1.useQ (.refl _) ?_
    conv => whnf
    refine bsel_intro (fun g => ?_) (fun g => ?_)
    · have g : ¬NumsIn (laid a) b := tt_not.1 (by simpa only [Bool.not_eq_true'] using g)
      conv => whnf
      exact retB TTok rfl (tt_f fun h => by
        rcases h with h | h | ⟨w, n, t, ar, ob⟩
        · exact ha h
        · exact hb h
        · exact g n)
    · have g : NumsIn (laid a) b := tt_iff.1 (by simpa only [Bool.not_eq_false'] using g)
      conv => whnf
      exact ⟨⟨by omega, fun _ => i0 (by omega), fun _ => g, fun h => absurd h (by omega), fun h => absurd h (by omega), fun h => absurd h (by omega)⟩, St.subD_of rfl _ rfl rfl (.cons (.of_eq (vInt_succ 1 (by omega))) rfl (.cons (.refl _) rfl (.cons (.refl _) rfl (.cons (.refl _) rfl .nil))))⟩
  · conv => whnf
    (refine ⟨by decide +kernel, ?_⟩; conv => whnf)
    refine (laid_ok a).useQ (.refl _) ?_
    conv => whnf
    refine H2.useQ (.refl _) ?_
    conv => whnf
    refine bsel_intro (fun g => ?_) (fun g => ?_)
    · have g : ¬TextsIn (laid a) b := tt_not.1 (by simpa only [Bool.not_eq_true'] using g)
      conv => whnf
      exact retB TTok rfl (tt_f fun h => by
        rcases h with h | h | ⟨w, n, t, ar, ob⟩
        · exact ha h
        · exact hb h
        · exact g t)
    · have g : TextsIn (laid a) b := tt_iff.1 (by simpa only [Bool.not_eq_false'] using g)
      conv => whnf
      exact ⟨⟨by omega, fun _ => i0 (by omega), fun _ => i1 (by omega), fun _ => g, fun h => absurd h (by omega), fun h => absurd h (by omega)⟩, St.subD_of rfl _ rfl rfl (.cons (.of_eq (vInt_succ 2 (by omega))) rfl (.cons (.refl _) rfl (.cons (.refl _) rfl (.cons (.refl _) rfl .nil))))⟩
  · conv => whnf
    (refine ⟨by decide +kernel, ?_⟩; conv => whnf)
    refine (laid_ok a).useQ (.refl _) ?_
    conv => whnf
    refine H3.useQ (.refl _) ?_
    conv => whnf
    refine bsel_intro (fun g => ?_) (fun g => ?_)
    · have g : ¬ArrsIn (laid a) b := tt_not.1 (by simpa only [Bool.not_eq_true'] using g)
      conv => whnf
      exact retB TTok rfl (tt_f fun h => by
        rcases h with h | h | ⟨w, n, t, ar, ob⟩
        · exact ha h
        · exact hb h
        · exact g ar)
    · have g : ArrsIn (laid a) b := tt_iff.1 (by simpa only [Bool.not_eq_false'] using g)
      conv => whnf
      exact ⟨⟨by omega, fun _ => i0 (by omega), fun _ => i1 (by omega), fun _ => i2 (by omega), fun _ => g, fun h => absurd h (by omega)⟩, St.subD_of rfl _ rfl rfl (.cons (.of_eq (vInt_succ 3 (by omega))) rfl (.cons (.refl _) rfl (.cons (.refl _) rfl (.cons (.refl _) rfl .nil))))⟩
  · conv => whnf
    (refine ⟨by decide +kernel, ?_⟩; conv => whnf)
    refine (laid_ok a).useQ (.refl _) ?_
    conv => whnf
    refine H4.useQ (.refl _) ?_
    conv => whnf
    refine bsel_intro (fun g => ?_) (fun g => ?_)
    · have g : ¬ObjsIn (laid a) b := tt_not.1 (by simpa only [Bool.not_eq_true'] using g)
      conv => whnf
      exact retB TTok rfl (tt_f fun h => by
        rcases h with h | h | ⟨w, n, t, ar, ob⟩
        · exact ha h
        · exact hb h
        · exact g ob)
    · have g : ObjsIn (laid a) b := tt_iff.1 (by simpa only [Bool.not_eq_false'] using g)
      conv => whnf
      exact ⟨⟨by omega, fun _ => i0 (by omega), fun _ => i1 (by omega), fun _ => i2 (by omega), fun _ => i3 (by omega), fun _ => g⟩, St.subD_of rfl _ rfl rfl (.cons (.of_eq (vInt_succ 4 (by omega))) rfl (.cons (.refl _) rfl (.cons (.refl _) rfl (.cons (.refl _) rfl .nil))))⟩
  · conv => whnf
    exact retB TTok rfl (tt_t (.inr (.inr ⟨i0 (by omega), i1 (by omega), i2 (by omega), i3 (by omega), i4 (by omega)⟩)))
end Go.Ab
