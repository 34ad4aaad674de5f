import Derived.Test.YtjggngbfmjneiaaGreatW60
import Derived.Test.YtjggngbfmjneiaaGreatPZm
set_option linter.unusedVariables false
set_option linter.unusedSimpArgs false
set_option maxRecDepth 4000
namespace Go.Ab
open Go.Proofs

set_option maxHeartbeats 2000000 in
theorem span12_ok (a b : Sp) (ha : SpOk a) (hb : SpOk b) : PCall Tryz.prog 21 [vSp a, vSp b] (vBool (tt (SpanIn a b))) := by
  refine PCall.of_fx TTok mixed Tryz.func21 rfl (by decide) rfl rfl ?_
  conv => whnf
  refine (hollow12_ok a ha).use (.refl _) ?_
  conv => whnf
  refine bsel_intro (fun h0 => ?_) (fun h0 => ?_)
  · have h0 : Hollow a := tt_iff.1 h0
    conv => whnf
    exact retB TTok rfl (tt_t (.inl h0))
  have h0 : ¬Hollow a := tt_not.1 h0
  have hi : ∀ {q : Bool}, (b.low = ⟨#[]⟩ ∨ (a.low ≠ ⟨#[]⟩ ∧ numCmp b.low a.low ≤ 0)) → (q = true ↔ (b.high = ⟨#[]⟩ ∨ (a.high ≠ ⟨#[]⟩ ∧ numCmp a.high b.high ≤ 0))) → q = tt (SpanIn a b) := fun hl hq => tt_eq ⟨fun h => .inr ⟨hl, hq.1 h⟩, fun h => hq.2 (h.resolve_left h0).2⟩
  conv => whnf
  refine bsel_intro (fun h1 => ?_) (fun h1 => ?_)
  case' refine_1 =>
    have h1 : b.low ≠ ⟨#[]⟩ := strEq_not.1 (by simpa using h1)
    conv => whnf
    refine bsel_intro (fun h2 => ?_) (fun h2 => ?_)
    case' refine_2 =>
      have h2 : a.low = ⟨#[]⟩ := strEq_iff.1 (by simpa using h2)
      conv => whnf
      exact retB TTok rfl (tt_f fun h => (h.resolve_left h0).1.elim h1 fun x => x.1 h2)
    have h2 : a.low ≠ ⟨#[]⟩ := strEq_not.1 (by simpa using h2)
    conv => whnf
    refine (numbers_ok a.low b.low (ha.1.resolve_left h2) (hb.1.resolve_left h1)).use (.refl _) ?_
    conv => whnf
    have an := num_TO.anti _ _ (ha.1.resolve_left h2) (hb.1.resolve_left h1)
    refine bsel_intro (fun h3 => ?_) (fun h3 => ?_)
    · have h3 : numCmp a.low b.low < 0 := by simpa using h3
      conv => whnf
      exact retB TTok rfl (tt_f fun h => (h.resolve_left h0).1.elim h1 fun x => by have := x.2; omega)
    have h3 : ¬numCmp a.low b.low < 0 := by simpa using h3
    have hl : b.low = ⟨#[]⟩ ∨ (a.low ≠ ⟨#[]⟩ ∧ numCmp b.low a.low ≤ 0) := .inr ⟨h2, by omega⟩
  case' refine_2 =>
    have h1 : b.low = ⟨#[]⟩ := strEq_iff.1 (by simpa using h1)
    have hl : b.low = ⟨#[]⟩ ∨ (a.low ≠ ⟨#[]⟩ ∧ numCmp b.low a.low ≤ 0) := .inl h1
  all_goals
    conv => whnf
    refine bsel_intro (fun h4 => ?_) (fun h4 => ?_)
    · have h4 : b.high ≠ ⟨#[]⟩ := strEq_not.1 (by simpa using h4)
      conv => whnf
      refine bsel_intro (fun h5 => ?_) (fun h5 => ?_)
      · have h5 : a.high ≠ ⟨#[]⟩ := strEq_not.1 (by simpa using h5)
        conv => whnf
        refine (numbers_ok a.high b.high (ha.2.resolve_left h5) (hb.2.resolve_left h4)).use (.refl _) ?_
        conv => whnf
        exact retB TTok rfl (hi hl (by simp [h4, h5]))
      · have h5 : a.high = ⟨#[]⟩ := strEq_iff.1 (by simpa using h5)
        conv => whnf
        exact retB TTok rfl (hi hl (by simp [h4, h5]))
    · have h4 : b.high = ⟨#[]⟩ := strEq_iff.1 (by simpa using h4)
      conv => whnf
      exact retB TTok rfl (hi hl (by simp [h4]))

set_option maxHeartbeats 2000000 in
theorem texts12_ok (a b : Ty) : PCall Tryz.prog 23 [vTy a, vTy b] (vBool (tt (TextsIn a b))) := by
  refine PCall.bd Tryz.func23 rfl (by decide) rfl rfl (fun hbd => ?_)
  have hb := (deep_of (hbd 0 (by simp))).bd.texts
  simp only [maxRows] at hb
  refine PCall.of_fx TTok mixed Tryz.func23 rfl (by decide) rfl rfl ?_
  conv => whnf
  refine bsel_intro (fun h1 => ?_) (fun h1 => ?_)
  · have h1 : b.anyText = true := h1
    conv => whnf
    exact retB TTok rfl (tt_t (.inl h1))
  have h1 : b.anyText = false := h1
  conv => whnf
  refine bsel_intro (fun h2 => ?_) (fun h2 => ?_)
  · have h2 : a.anyText = true := h2
    conv => whnf
    exact retB TTok rfl (tt_f fun h => by rcases h with h | h; exact absurd h (by rw [h1]; simp); exact absurd h.1 (by rw [h2]; simp))
  have h2 : a.anyText = false := h2
  conv => whnf
  refine ⟨SExec.loop_p a.texts.length (fun k => ∀ j (h : j < a.texts.length), j < k → a.texts[j] ∈ b.texts) (fun k => ⟨26, [(5, vInt k), (3, .bx 1 0), (2, .bx 0 0)], [.row 27 (cellsV (vTy a)), .row 27 (cellsV (vTy b))]⟩) (fun j _ h => absurd h (Nat.not_lt_zero _))
    (fun k => Nat.le_refl _) (St.subD_of rfl [] rfl rfl (.cons (.refl _) rfl (.cons (.refl _) rfl (.cons (.refl _) rfl .nil)))) ?_⟩
  intro k hk hI
  refine fx_sound TTok mixed ?_
  conv => whnf
  refine bsel_intro (fun hlt => ?_) (fun hlt => ?_)
  · have hlt : k < a.texts.length := by simpa using hlt
    conv => whnf
    (refine ⟨by decide +kernel, ?_⟩; conv => whnf)
    refine idxStr hlt rfl ?_
    conv => whnf
    refine (has_ok b.texts _).useQ (.refl _) ?_
    conv => whnf
    refine bsel_intro (fun h3 => ?_) (fun h3 => ?_)
    · have h3 : a.texts[k] ∉ b.texts := tt_not.1 (by simpa using h3)
      conv => whnf
      exact retB TTok rfl (tt_f fun h => by rcases h with h | h; exact absurd h (by rw [h1]; simp); exact h3 (h.2 _ (List.getElem_mem hlt)))
    · have h3 : a.texts[k] ∈ b.texts := tt_iff.1 (by simpa using h3)
      conv => whnf
      exact ⟨⟨hlt, all_next' (p := fun s => s ∈ b.texts) hlt hI h3⟩, St.subD_of rfl _ rfl rfl (.cons (.of_eq (vInt_succ k (by omega))) rfl (.cons (.refl _) rfl (.cons (.refl _) rfl .nil)))⟩
  · have hge : a.texts.length ≤ k := by simpa using hlt
    conv => whnf
    exact retB TTok rfl (tt_t (.inr ⟨h2, fun s hs => by obtain ⟨j, hj, rfl⟩ := List.mem_iff_getElem.1 hs; exact hI j hj (by omega)⟩))

/-- The document's Below, of two types. -/
def RBelC (a b : Ty) : Prop := PCall Tryz.prog 63 [vTy a, vTy b] (vBool (tt (BelowP a b)))
theorem RBelC.out {a b : Ty} (h : RBelC a b) : PCall Tryz.prog 63 [vTy a, vTy b] (vBool (tt (BelowP a b))) := h
theorem pos_iff {α : Type} {l : List α} : 0 < l.length ↔ l ≠ [] := List.length_pos_iff

set_option maxHeartbeats 2000000 in
theorem arrays12_ok (a b : Ty) (hc : ∀ x ∈ a.arrays, ∀ y ∈ b.arrays, RBelC x.item y.item) : PCall Tryz.prog 25 [vTy a, vTy b] (vBool (tt (ArrsIn a b))) := by
  refine PCall.of_fx TTok mixed Tryz.func25 rfl (by decide) rfl rfl ?_
  conv => whnf
  by_cases ha : 0 < a.arrays.length
  case neg =>
    refine bsel_true (by simp [ofNat_cast]; exact Classical.byContradiction fun x => ha (pos_iff.2 x)) ?_
    conv => whnf
    exact retB TTok rfl (tt_t ⟨fun h => absurd h ha, fun h => absurd h ha, fun h => absurd h ha⟩)
  refine bsel_false (by simp [ofNat_cast]; exact pos_iff.1 ha) ?_
  conv => whnf
  by_cases hb : 0 < b.arrays.length
  case neg =>
    refine bsel_true (by simp [ofNat_cast]; exact Classical.byContradiction fun x => hb (pos_iff.2 x)) ?_
    conv => whnf
    exact retB TTok rfl (tt_f fun h => hb (h.len ha))
  refine bsel_false (by simp [ofNat_cast]; exact pos_iff.1 hb) ?_
  have h0 := hc _ (List.getElem_mem ha) _ (List.getElem_mem hb)
  unfold RBelC at h0
  conv => whnf
  refine idxAr (k := 0) ha rfl ?_
  conv => whnf
  refine idxAr (k := 0) hb rfl ?_
  have fin : ∀ {q : Bool}, ArrIn a.arrays[0] b.arrays[0] → (q = true ↔ (a.arrays[0].max ≠ 0 → BelowP a.arrays[0].item b.arrays[0].item)) → q = tt (ArrsIn a b) := fun am hq => tt_eq ⟨fun h => ⟨fun _ => hb, fun _ _ => am, fun _ _ h0 => hq.1 h h0⟩, fun h => hq.2 (h.item ha hb)⟩
  conv => whnf
  refine bsel_intro (fun m1 => ?_) (fun m1 => ?_)
  case' refine_2 =>
    have m1 : a.arrays[0].min < b.arrays[0].min := by simpa using m1
    conv => whnf
    exact retB TTok rfl (tt_f fun h => by have := (h.arr ha hb).min; omega)
  have m1 : b.arrays[0].min ≤ a.arrays[0].min := by simpa using m1
  conv => whnf
  refine bsel_intro (fun m2 => ?_) (fun m2 => ?_)
  case' refine_1 =>
    have m2 : 0 ≤ b.arrays[0].max := by simpa using m2
    conv => whnf
    refine bsel_intro (fun m3 => ?_) (fun m3 => ?_)
    case' refine_2 =>
      have m3 : a.arrays[0].max < 0 := by simpa using m3
      conv => whnf
      exact retB TTok rfl (tt_f fun h => by have := (h.arr ha hb).max m2; omega)
    have m3 : 0 ≤ a.arrays[0].max := by simpa using m3
    conv => whnf
    refine bsel_intro (fun m4 => ?_) (fun m4 => ?_)
    · have m4 : b.arrays[0].max < a.arrays[0].max := by simpa using m4
      conv => whnf
      exact retB TTok rfl (tt_f fun h => by have := (h.arr ha hb).max m2; omega)
    have m4 : a.arrays[0].max ≤ b.arrays[0].max := by simpa using m4
    have am : ArrIn a.arrays[0] b.arrays[0] := ⟨m1, fun _ => ⟨m3, m4⟩⟩
  case' refine_2 =>
    have m2 : b.arrays[0].max < 0 := by simpa using m2
    have am : ArrIn a.arrays[0] b.arrays[0] := ⟨m1, fun h => by omega⟩
  all_goals
    conv => whnf
    refine bsel_intro (fun z => ?_) (fun z => ?_)
    · have z : a.arrays[0].max ≠ 0 := by simpa using z
      conv => whnf
      refine h0.use (.refl _) ?_
      conv => whnf
      exact retB TTok rfl (fin am ⟨fun h _ => tt_iff.1 h, fun h => tt_iff.2 (h z)⟩)
    · have z : a.arrays[0].max = 0 := by simpa using z
      conv => whnf
      exact retB TTok rfl (fin am ⟨fun _ h => absurd z h, fun _ => rfl⟩)

set_option maxHeartbeats 2000000 in
theorem lies12_ok (x y : Ob) (wx : ObW x) (wy : ObW y) (hc : ∀ n, RBelC (fieldO x n).1 (fieldO y n).1) (hr : RBelC x.rest y.rest) : PCall Tryz.prog 28 [vOb x, vOb y] (vBool (tt (LiesP x y))) := by
  have f1 := wx.few
  have f2 := wy.few
  have hN := names12_of x y
  have hl := names12_len x y
  have hn := names12_ok x y (by omega) (by omega)
  generalize names12 x y = l at hN hl hn
  refine PCall.of_fx TTok mixed Tryz.func28 rfl (by decide) rfl rfl ?_
  conv => whnf
  refine hn.use (.refl _) ?_
  conv => whnf
  refine ⟨SExec.loop_p l.length (fun k => ∀ j (h : j < l.length), j < k → ((fieldO y l[j]).2 = true → (fieldO x l[j]).2 = true) ∧ BelowP (fieldO x l[j]).1 (fieldO y l[j]).1) (fun k => ⟨54, [(6, vInt k), (5, vStrs l), (3, .bx 1 0), (2, .bx 0 0)], [.row 44 (cellsV (vOb x)), .row 44 (cellsV (vOb y))]⟩) (fun j _ h => absurd h (Nat.not_lt_zero _))
    (fun k => Nat.le_refl _) (St.subD_of rfl [] rfl rfl (.cons (.refl _) rfl (.cons (.refl _) rfl (.cons (.refl _) rfl (.cons (.refl _) rfl .nil))))) ?_⟩
  intro k hk hI
  refine fx_sound TTok mixed ?_
  conv => whnf
  refine bsel_intro (fun hlt => ?_) (fun hlt => ?_)
  · have hlt : k < l.length := by simpa using hlt
    have hm : Names2 x y l[k] := (hN.mem _).1 (List.getElem_mem hlt)
    have hb := hc l[k]
    unfold RBelC at hb
    conv => whnf
    refine ⟨SExec.region_fG TTok mixed 0 1 (by decide +kernel) rfl rfl ?_⟩
    conv => whnf
    refine idxStr hlt rfl ?_
    conv => whnf
    refine .inr (.inr ?_)
    conv => whnf
    refine (field12_ok x l[k] wx.fields wx.must).useP (.refl _) ?_
    conv => whnf
    refine ⟨SExec.region_fG TTok mixed 0 1 (by decide +kernel) rfl rfl ?_⟩
    conv => whnf
    refine idxStr hlt rfl ?_
    conv => whnf
    refine .inr (.inr ?_)
    conv => whnf
    refine (field12_ok y l[k] wy.fields wy.must).useP (.refl _) ?_
    conv => whnf
    generalize hX : (fieldO x l[k]).2 = mx at *
    generalize hY : (fieldO y l[k]).2 = my at *
    cases my
    · conv => whnf
      refine hb.use (.refl _) ?_
      conv => whnf
      refine bsel_intro (fun h2 => ?_) (fun h2 => ?_)
      · have h2 : ¬BelowP (fieldO x l[k]).1 (fieldO y l[k]).1 := tt_not.1 (by simpa using h2)
        conv => whnf
        exact retB TTok rfl (tt_f fun h => h2 (h.field _ hm))
      · have h2 : BelowP (fieldO x l[k]).1 (fieldO y l[k]).1 := tt_iff.1 (by simpa using h2)
        conv => whnf
        refine ⟨⟨hlt, fun j hj hjk => ?_⟩, St.subD_of rfl _ rfl rfl (.cons (.of_eq (vInt_succ k (by omega))) rfl (.cons (.refl _) rfl (.cons (.refl _) rfl (.cons (.refl _) rfl .nil))))⟩
        by_cases e : j = k
        · subst e; exact ⟨fun h => (by rw [hY] at h; cases h), h2⟩
        · exact hI j hj (by omega)
    · conv => whnf
      cases mx
      · conv => whnf
        exact retB TTok rfl (tt_f fun h => by have := h.must _ hm hY; rw [hX] at this; cases this)
      · conv => whnf
        refine hb.use (.refl _) ?_
        conv => whnf
        refine bsel_intro (fun h2 => ?_) (fun h2 => ?_)
        · have h2 : ¬BelowP (fieldO x l[k]).1 (fieldO y l[k]).1 := tt_not.1 (by simpa using h2)
          conv => whnf
          exact retB TTok rfl (tt_f fun h => h2 (h.field _ hm))
        · have h2 : BelowP (fieldO x l[k]).1 (fieldO y l[k]).1 := tt_iff.1 (by simpa using h2)
          conv => whnf
          refine ⟨⟨hlt, fun j hj hjk => ?_⟩, St.subD_of rfl _ rfl rfl (.cons (.of_eq (vInt_succ k (by omega))) rfl (.cons (.refl _) rfl (.cons (.refl _) rfl (.cons (.refl _) rfl .nil))))⟩
          by_cases e : j = k
          · subst e; exact ⟨fun h => hX, h2⟩
          · exact hI j hj (by omega)
  · have hge : l.length ≤ k := by simpa using hlt
    unfold RBelC at hr
    conv => whnf
    refine hr.use (.refl _) ?_
    conv => whnf
    refine retB TTok rfl (tt_congr ⟨fun h => ⟨fun n hn => ?_, fun n hn => ?_, h⟩, fun h => h.rest⟩)
    all_goals
      obtain ⟨j, hj, rfl⟩ := List.mem_iff_getElem.1 ((hN.mem n).2 hn)
    · exact (hI j hj (by omega)).1
    · exact (hI j hj (by omega)).2

set_option maxHeartbeats 2000000 in
theorem objects12_ok (a b : Ty) (hc : ∀ x ∈ a.objects, ∀ y ∈ b.objects, PCall Tryz.prog 28 [vOb x, vOb y] (vBool (tt (LiesP x y)))) : PCall Tryz.prog 90 [vTy a, vTy b] (vBool (tt (ObjsIn a b))) := by
  refine PCall.bd Tryz.func90 rfl (by decide) rfl rfl (fun hbd => ?_)
  have hb := (deep_of (hbd 0 (by simp))).bd.objects
  have hb2 := (deep_of (hbd 1 (by simp))).bd.objects
  simp only [maxRows] at hb hb2
  refine PCall.of_fx TTok mixed Tryz.func90 rfl (by decide) rfl rfl ?_
  conv => whnf
  refine ⟨SExec.loop_p a.objects.length (fun k => ∀ j (h : j < a.objects.length), j < k → ∃ y ∈ b.objects, LiesP a.objects[j] y) (fun k => ⟨35, [(5, vInt k), (3, .bx 1 0), (2, .bx 0 0)], [.row 27 (cellsV (vTy a)), .row 27 (cellsV (vTy b))]⟩) (fun j _ h => absurd h (Nat.not_lt_zero _))
    (fun k => Nat.le_refl _) (St.subD_of rfl [] rfl rfl (.cons (.refl _) rfl (.cons (.refl _) rfl (.cons (.refl _) rfl .nil)))) ?_⟩
  intro k hk hI
  refine fx_sound TTok mixed ?_
  conv => whnf
  refine bsel_intro (fun hlt => ?_) (fun hlt => ?_)
  · have hlt : k < a.objects.length := by simpa using hlt
    conv => whnf
    refine ⟨SExec.loop_p b.objects.length (fun _ => True) (fun i => ⟨35, [(7, vInt i), (6, vBool (tt (∃ j, ∃ h : j < b.objects.length, j < i ∧ LiesP a.objects[k] b.objects[j]))), (5, vInt k), (3, .bx 1 0), (2, .bx 0 0)], [.row 27 (cellsV (vTy a)), .row 27 (cellsV (vTy b))]⟩) trivial
      (fun k => Nat.le_refl _) (St.subD_of rfl [] rfl rfl (.cons (.refl _) rfl (.cons (.of_eq (congrArg vBool (tt_f fun ⟨j, h, h', _⟩ => absurd h' (Nat.not_lt_zero j)))) rfl (.cons (.refl _) rfl (.cons (.refl _) rfl (.cons (.refl _) rfl .nil)))))) ?_⟩
    intro i hi _
    refine fx_sound TTok mixed ?_
    conv => whnf
    refine bsel_intro (fun hlt2 => ?_) (fun hlt2 => ?_)
    · have hlt2 : i < b.objects.length := by simpa using hlt2
      have h0 := hc _ (List.getElem_mem hlt) _ (List.getElem_mem hlt2)
      conv => whnf
      (refine ⟨by decide +kernel, ?_⟩; conv => whnf)
      refine idxOb hlt rfl ?_
      conv => whnf
      refine idxOb hlt2 rfl ?_
      conv => whnf
      refine h0.useQ (.refl _) ?_
      conv => whnf
      refine bsel_intro (fun h3 => ?_) (fun h3 => ?_)
      · have h3 : LiesP a.objects[k] b.objects[i] := tt_iff.1 h3
        conv => whnf
        exact ⟨⟨hlt2, trivial⟩, St.subD_of rfl _ rfl rfl (.cons (.of_eq (vInt_succ i (by omega))) rfl (.cons (.of_eq (congrArg vBool (tt_t ⟨i, hlt2, by omega, h3⟩))) rfl (.cons (.refl _) rfl (.cons (.refl _) rfl (.cons (.refl _) rfl .nil)))))⟩
      · have h3 : ¬LiesP a.objects[k] b.objects[i] := tt_not.1 h3
        conv => whnf
        exact ⟨⟨hlt2, trivial⟩, St.subD_of rfl _ rfl rfl (.cons (.of_eq (vInt_succ i (by omega))) rfl (.cons (.of_eq (congrArg vBool (tt_congr ⟨fun ⟨j, h, h', h''⟩ => ⟨j, h, by omega, h''⟩, fun ⟨j, h, h', h''⟩ => ⟨j, h, by
          rcases Nat.lt_or_ge j i with x | x
          · exact x
          · have : j = i := by omega
            subst this; exact absurd h'' h3, h''⟩⟩))) rfl (.cons (.refl _) rfl (.cons (.refl _) rfl (.cons (.refl _) rfl .nil)))))⟩
    · have hge : b.objects.length ≤ i := by simpa using hlt2
      have e : tt (∃ j, ∃ h : j < b.objects.length, j < i ∧ LiesP a.objects[k] b.objects[j]) = tt (∃ y ∈ b.objects, LiesP a.objects[k] y) := tt_congr ⟨fun ⟨j, h, _, h'⟩ => ⟨_, List.getElem_mem h, h'⟩, fun ⟨y, hy, h⟩ => by
        obtain ⟨j, hj, rfl⟩ := List.mem_iff_getElem.1 hy
        exact ⟨j, hj, by omega, h⟩⟩
      rw [e]
      conv => whnf
      refine bsel_intro (fun h4 => ?_) (fun h4 => ?_)
      · have h4 : ¬∃ y ∈ b.objects, LiesP a.objects[k] y := tt_not.1 (by simpa only [Bool.not_eq_true'] using h4)
        conv => whnf
        exact retB TTok rfl (tt_f fun h => h4 (h _ (List.getElem_mem hlt)))
      · have h4 : ∃ y ∈ b.objects, LiesP a.objects[k] y := tt_iff.1 (by simpa only [Bool.not_eq_false'] using h4)
        conv => whnf
        exact ⟨⟨hlt, all_next' (p := fun x => ∃ y ∈ b.objects, LiesP x y) hlt hI h4⟩, St.subD_of rfl _ rfl rfl (.cons (.of_eq (vInt_succ k (by omega))) rfl (.cons (.refl _) rfl (.cons (.refl _) rfl .nil)))⟩
  · have hge : a.objects.length ≤ k := by simpa using hlt
    conv => whnf
    exact retB TTok rfl (tt_t fun x hx => by obtain ⟨j, hj, rfl⟩ := List.mem_iff_getElem.1 hx; exact hI j hj (by omega))

theorem sz_rest {t : Ty} {x : Ob} (hx : x ∈ (laid t).objects) : sz x.rest ≤ sz t ∧ (¬t.all = true → sz x.rest < sz t) := by
  by_cases h : t.all = true
  · rw [laid_all h] at hx
    have hx : x ∈ [obOpen] := hx
    obtain rfl := List.mem_singleton.1 hx
    exact ⟨by rw [sz_all h]; exact Nat.le_refl _, fun h' => absurd h h'⟩
  · rw [laid_not h] at hx
    have := Ty.rest_lt hx
    have := sz_le x.rest
    rw [sz_not h]
    exact ⟨by omega, fun _ => by omega⟩
theorem never_iff {t : Ty} : kinds t = 0 ↔ Never t := ⟨kinds_never, never_kinds⟩
set_option maxHeartbeats 4000000 in
/-- The document's Below. -/
theorem rbelow_c : ∀ a b : Ty, Bw a → Bw b → RBelC a b := by
  intro a b
  generalize hs : sz a + sz b = n
  induction n using Nat.strongRecOn generalizing a b with
  | _ n ih =>
  intro wa wb
  subst hs
  unfold RBelC
  rw [tt_congr belowP_iff]
  refine PCall.of_fx TTok mixed Tryz.func63 rfl (by decide) rfl rfl ?_
  conv => whnf
  refine (never_ok a).use (.refl _) ?_
  conv => whnf
  refine bsel_intro (fun h0 => ?_) (fun h0 => ?_)
  case' refine_2 =>
    have h0 : Never a := tt_iff.1 (by simpa using h0)
    conv => whnf
    exact retB TTok rfl (tt_t (.inl (never_iff.2 h0)))
  have h0 : ¬Never a := tt_not.1 (by simpa using h0)
  have h0' : ¬kinds a = 0 := fun h => h0 (never_iff.1 h)
  conv => whnf
  refine bsel_intro (fun h1 => ?_) (fun h1 => ?_)
  · have h1 : b.all = true := h1
    conv => whnf
    exact retB TTok rfl (tt_t (.inr (.inl h1)))
  have h1 : b.all = false := h1
  have h1' : ¬b.all = true := by rw [h1]; simp
  have red : ∀ {q : Bool}, q = tt (WordsIn (laid a) b ∧ NumsIn (laid a) b ∧ TextsIn (laid a) b ∧ ArrsIn (laid a) b ∧ ObjsIn (laid a) b) → q = tt (kinds a = 0 ∨ b.all = true ∨ (WordsIn (laid a) b ∧ NumsIn (laid a) b ∧ TextsIn (laid a) b ∧ ArrsIn (laid a) b ∧ ObjsIn (laid a) b)) := fun h => h.trans (tt_congr ⟨fun x => .inr (.inr x), fun x => (x.resolve_left h0').resolve_left h1'⟩)
  have wl := wa.laid
  have lb : laid b = b := laid_not h1'
  have H3 := texts12_ok (laid a) b
  have H4 := arrays12_ok (laid a) b fun x hx y hy => ih (sz x.item + sz y.item) (by
    have p := sz_item hx
    have q := sz_item (t := b) (by rw [lb]; exact hy)
    have := q.2 h1'
    omega) x.item y.item rfl (bw_item wl x hx) (bw_item wb y hy)
  have H5 := objects12_ok (laid a) b fun x hx y hy => lies12_ok x y (bw_obj wl x hx) (bw_obj wb y hy) (fun n => ih (sz (fieldO x n).1 + sz (fieldO y n).1) (by
    have p := sz_field hx (bw_obj wl x hx) n
    have q := sz_field (t := b) (by rw [lb]; exact hy) (bw_obj wb y hy) n
    have := q.2 h1'
    omega) _ _ rfl (wl.fieldO hx n) (wb.fieldO hy n)) (ih (sz x.rest + sz y.rest) (by
    have p := sz_rest hx
    have q := sz_rest (t := b) (by rw [lb]; exact hy)
    have := q.2 h1'
    omega) _ _ rfl (bw_rest wl x hx) (bw_rest wb y hy))
  conv => whnf
  refine (laid12_ok a).use (.refl _) ?_
  have no : ¬WordsIn (laid a) b → false = tt (kinds a = 0 ∨ b.all = true ∨ (WordsIn (laid a) b ∧ NumsIn (laid a) b ∧ TextsIn (laid a) b ∧ ArrsIn (laid a) b ∧ ObjsIn (laid a) b)) := fun h => red (tt_f fun x => h x.1)
  generalize laid a = A at *
  conv => whnf
  refine bsel_intro (fun p => ?_) (fun p => ?_)
  case' refine_1 =>
    conv => whnf
    refine bsel_intro (fun q => ?_) (fun q => ?_)
    case' refine_2 =>
      conv => whnf
      exact retB TTok rfl (no fun h => by have h := h.1 (by simpa using p); simp [h] at q)
    have w1 : A.null = true → b.null = true := fun _ => by simpa using q
    clear p q
  case' refine_2 =>
    have w1 : A.null = true → b.null = true := fun h => by simp [h] at p
    clear p
  all_goals
    conv => whnf
    refine bsel_intro (fun p => ?_) (fun p => ?_)
    case' refine_1 =>
      conv => whnf
      refine bsel_intro (fun q => ?_) (fun q => ?_)
      case' refine_2 =>
        conv => whnf
        exact retB TTok rfl (no fun h => by have h := h.2.1 (by simpa using p); simp [h] at q)
      have w2 : A.fls = true → b.fls = true := fun _ => by simpa using q
      clear p q
    case' refine_2 =>
      have w2 : A.fls = true → b.fls = true := fun h => by simp [h] at p
      clear p
  all_goals
    conv => whnf
    refine bsel_intro (fun p => ?_) (fun p => ?_)
    case' refine_1 =>
      conv => whnf
      refine bsel_intro (fun q => ?_) (fun q => ?_)
      case' refine_1 =>
        conv => whnf
        exact retB TTok rfl (no fun h => by have h := h.2.2 (by simpa using p); simp [h] at q)
      have w3 : A.tru = true → b.tru = true := fun _ => by simpa using q
      clear p q
    case' refine_2 =>
      have w3 : A.tru = true → b.tru = true := fun h => by simp [h] at p
      clear p
  all_goals
    have hw : WordsIn A b := ⟨w1, w2, w3⟩
    clear w1 w2 w3 no
    conv => whnf
    (refine ⟨by decide +kernel, ?_⟩; conv => whnf)
    by_cases ha : 0 < A.nums.length
    case' pos =>
      refine bsel_true (by simpa [ofNat_cast] using ha) ?_
      conv => whnf
      by_cases hb : 0 < b.nums.length
      case neg =>
        refine bsel_false (by simp [ofNat_cast]; exact Classical.byContradiction fun x => hb (pos_iff.2 x)) ?_
        conv => whnf
        exact retB TTok rfl (red (tt_f fun h => hb (h.2.1 ha).1))
      refine bsel_true (by simp [ofNat_cast]; exact pos_iff.1 hb) ?_
      conv => whnf
      refine idxSp (k := 0) ha rfl ?_
      conv => whnf
      refine idxSp (k := 0) hb rfl ?_
      conv => whnf
      refine (span12_ok _ _ (bw_nums wl _ (List.getElem_mem ha)) (bw_nums wb _ (List.getElem_mem hb))).useQ (.refl _) ?_
      conv => whnf
      refine bsel_intro (fun h7 => ?_) (fun h7 => ?_)
      case' refine_1 =>
        have h7 : ¬SpanIn A.nums[0] b.nums[0] := tt_not.1 (by simpa only [Bool.not_eq_true'] using h7)
        conv => whnf
        exact retB TTok rfl (red (tt_f fun h => h7 (h.2.1 ha).2))
      have hn : NumsIn A b := fun _ => ⟨hb, tt_iff.1 (by simpa only [Bool.not_eq_false'] using h7)⟩
    case' neg =>
      refine bsel_false (by simpa [ofNat_cast] using ha) ?_
      have hn : NumsIn A b := fun h => absurd h ha
    all_goals
      conv => whnf
      refine H3.use (.refl _) ?_
      conv => whnf
      refine bsel_intro (fun h8 => ?_) (fun h8 => ?_)
      case' refine_2 =>
        have h8 : ¬TextsIn A b := tt_not.1 (by simpa using h8)
        conv => whnf
        exact retB TTok rfl (red (tt_f fun h => h8 h.2.2.1))
      have h8 : TextsIn A b := tt_iff.1 (by simpa using h8)
      conv => whnf
      refine H4.use (.refl _) ?_
      conv => whnf
      refine bsel_intro (fun h9 => ?_) (fun h9 => ?_)
      case' refine_2 =>
        have h9 : ¬ArrsIn A b := tt_not.1 (by simpa using h9)
        conv => whnf
        exact retB TTok rfl (red (tt_f fun h => h9 h.2.2.2.1))
      have h9 : ArrsIn A b := tt_iff.1 (by simpa using h9)
      conv => whnf
      refine H5.use (.refl _) ?_
      conv => whnf
      exact retB TTok rfl (red (tt_congr ⟨fun h => ⟨hw, hn, h8, h9, h⟩, fun h => h.2.2.2.2⟩))
end Go.Ab
set_option linter.unusedVariables false
set_option linter.unusedSimpArgs false
set_option maxRecDepth 4000
namespace Go.Ab
open Go.Proofs

theorem strAdd {a b : ByteArray} (h : a.size + b.size ≤ 4611686018427387904) : binStr .add a b = some (.string (a ++ b)) := if_pos h
theorem wrapN {n : Int} {k : Nat} (e : n = (k : Int)) (h : k ≤ 9223372036854775807) : V.d (.lit (.int .i64 (IntKind.i64.wrap n))) = vInt (k : Int) := by rw [e, wrap_id (by omega) (by omega)]; rfl
/-! ### far, long, fresh -/
set_option maxHeartbeats 2000000 in
theorem far12_of (a b sign : ByteArray) (ha : a.size ≤ smB) (hb : b.size ≤ smB) (hs : sign.size ≤ 1) : PCall Tryz.prog 60 [vStr a, vStr b, vStr sign] (vStr (repB (sign ++ oneS) 48 (a.size + b.size))) := by
  simp only [smB] at ha hb
  have o1 : oneS.size = 1 := rfl
  have h1 : (sign ++ oneS).size ≤ 2 := by rw [size_app]; omega
  have hsz : ∀ k, (repB (sign ++ oneS) 48 k).size = (sign ++ oneS).size + k := repB_size _ _
  refine PCall.of_fx TTok mixed Tryz.func60 rfl (by decide) rfl rfl ?_
  conv => whnf
  rw [strAdd (a := sign) (b := ⟨#[49]⟩) (by have : (ByteArray.mk #[49]).size = 1 := rfl; omega)]
  conv => whnf
  refine ⟨SExec.loop_n (a.size + b.size) (fun k => ⟨23, [(8, vInt k), (7, vStr (repB (sign ++ oneS) 48 k)), (0, vStr a), (1, vStr b)], []⟩) (fun k => Nat.le_refl _) (St.subD_of rfl [] rfl rfl (.cons (.refl _) rfl (.cons (.refl _) rfl (.cons (.refl _) rfl (.cons (.refl _) rfl .nil))))) ?_⟩
  intro k hk
  have e : IntKind.i64.wrap (Int.ofNat a.size + Int.ofNat b.size) = ((a.size + b.size : Nat) : Int) := by
    rw [ofNat_cast, ofNat_cast, wrap_id (by omega) (by omega)]; simp
  refine fx_sound TTok mixed ?_
  conv => whnf
  refine bsel_intro (fun hlt => ?_) (fun hlt => ?_)
  · have hlt : k < a.size + b.size := by
      have hlt := of_decide_eq_true hlt
      have e : IntKind.i64.wrap ((a.size : Int) + (b.size : Int)) = ((a.size + b.size : Nat) : Int) := e
      rw [e] at hlt; omega
    conv => whnf
    rw [strAdd (by have := hsz k; have : (ByteArray.mk #[48]).size = 1 := rfl; omega)]
    conv => whnf
    exact ⟨hlt, St.subD_of rfl [] rfl rfl (.cons (.of_eq (vInt_succ k (by omega))) rfl (.cons (.refl _) rfl (.cons (.refl _) rfl (.cons (.refl _) rfl .nil))))⟩
  · have hge : k = a.size + b.size := by
      have hlt := of_decide_eq_false hlt
      have e : IntKind.i64.wrap ((a.size : Int) + (b.size : Int)) = ((a.size + b.size : Nat) : Int) := e
      rw [e] at hlt; omega
    subst hge
    conv => whnf
    exact retP TTok rfl (.refl _) rfl
theorem farP_call (a b : ByteArray) (ha : a.size ≤ smB) (hb : b.size ≤ smB) : PCall Tryz.prog 60 [vStr a, vStr b, vStr ⟨#[]⟩] (vStr (repB oneS 48 (a.size + b.size))) := by
  have h := far12_of a b ⟨#[]⟩ ha hb (by decide)
  have e : (⟨#[]⟩ : ByteArray) ++ oneS = oneS := by decide
  rwa [e] at h
theorem farM_call (a b : ByteArray) (ha : a.size ≤ smB) (hb : b.size ≤ smB) : PCall Tryz.prog 60 [vStr a, vStr b, vStr ⟨#[45]⟩] (vStr (repB mOneS 48 (a.size + b.size))) := by
  have h := far12_of a b ⟨#[45]⟩ ha hb (by decide)
  have e : (⟨#[45]⟩ : ByteArray) ++ oneS = mOneS := by decide
  rwa [e] at h

def maxL (l : List ByteArray) : Nat := l.foldl (fun m s => max m s.size) 0
theorem maxL_next {l : List ByteArray} {k : Nat} (h : k < l.length) : maxL (l.take (k + 1)) = max (maxL (l.take k)) l[k].size := by rw [take_next h]; unfold maxL; rw [List.foldl_append]; rfl
theorem maxL_le {l : List ByteArray} {B : Nat} (hB : ∀ s ∈ l, s.size ≤ B) : ∀ k, k ≤ l.length → maxL (l.take k) ≤ B
  | 0, _ => by simp [maxL]
  | k + 1, h => by rw [maxL_next (by omega)]; have := maxL_le hB k (by omega); have := hB _ (List.getElem_mem (show k < l.length by omega)); omega
theorem le_maxL {l : List ByteArray} : ∀ k, k ≤ l.length → ∀ j (h : j < l.length), j < k → l[j].size ≤ maxL (l.take k)
  | 0, _, j, _, h => absurd h (Nat.not_lt_zero j)
  | k + 1, hk, j, hj, h => by
    rw [maxL_next (by omega)]
    by_cases e : j = k
    · subst e; omega
    · have := le_maxL k (by omega) j hj (by omega); omega
set_option maxHeartbeats 2000000 in
theorem long12_ok (l : List ByteArray) (hB : ∀ s ∈ l, s.size ≤ smB) (hl : l.length ≤ 1000000) : PCall Tryz.prog 62 [vStrs l] (vStr (repB xS 120 (maxL l))) := by
  simp only [smB] at hB
  have hm := maxL_le hB
  have x1 : xS.size = 1 := rfl
  have hsz : ∀ k, (repB xS 120 k).size = k + 1 := fun k => by rw [repB_size]; omega
  refine PCall.of_fx TTok mixed Tryz.func62 rfl (by decide) rfl rfl ?_
  conv => whnf
  refine ⟨SExec.loop_n l.length (fun k => ⟨22, [(4, vInt k), (3, vStr (repB xS 120 (maxL (l.take k)))), (0, vStrs l)], []⟩) (fun k => Nat.le_refl _) (St.subD_of rfl [] rfl rfl (.cons (.refl _) rfl (.cons (.refl _) rfl (.cons (.refl _) rfl .nil)))) ?_⟩
  intro k hk
  refine fx_sound TTok mixed ?_
  conv => whnf
  refine bsel_intro (fun hlt => ?_) (fun hlt => ?_)
  · have hlt : k < l.length := by simpa using hlt
    have hmk := hm k (by omega)
    have hsk := hB _ (List.getElem_mem hlt)
    have hmx := maxL_next hlt
    conv => whnf
    refine ⟨SExec.loop_n (max (maxL (l.take k)) l[k].size - maxL (l.take k)) (fun i => ⟨22, [(4, vInt k), (3, vStr (repB xS 120 (maxL (l.take k) + i))), (0, vStrs l)], []⟩) (fun k => Nat.le_refl _) (St.subD_of rfl [] rfl rfl (.cons (.refl _) rfl (.cons (.refl _) rfl (.cons (.refl _) rfl .nil)))) ?_⟩
    intro i hi
    refine fx_sound TTok mixed ?_
    conv => whnf
    refine idxStr hlt rfl ?_
    conv => whnf
    refine bsel_intro (fun h2 => ?_) (fun h2 => ?_)
    · have h2 : maxL (l.take k) + i + 1 ≤ l[k].size := by have h2 := leN h2; rw [hsz] at h2; exact h2
      conv => whnf
      rw [strAdd (by have := hsz (maxL (l.take k) + i); have : (ByteArray.mk #[120]).size = 1 := rfl; omega)]
      conv => whnf
      exact ⟨by omega, St.subD_of rfl [] rfl rfl (.cons (.refl _) rfl (.cons (.refl _) rfl (.cons (.refl _) rfl .nil)))⟩
    · have h2 : l[k].size < maxL (l.take k) + i + 1 := by have h2 := gtN h2; rw [hsz] at h2; exact h2
      have e : maxL (l.take k) + i = maxL (l.take (k + 1)) := by rw [hmx]; omega
      rw [e]
      conv => whnf
      exact ⟨hlt, St.subD_of rfl [] rfl rfl (.cons (.of_eq (vInt_succ k (by omega))) rfl (.cons (.refl _) rfl (.cons (.refl _) rfl .nil)))⟩
  · have hge : l.length ≤ k := by simpa using hlt
    rw [List.take_of_length_le hge]
    conv => whnf
    exact retP TTok rfl (.refl _) rfl
theorem long_notMem {l : List ByteArray} : repB xS 120 (maxL l) ∉ l := fun h => by
  obtain ⟨j, hj, e⟩ := List.mem_iff_getElem.1 h
  have := le_maxL l.length (Nat.le_refl _) j hj hj
  rw [List.take_length, e, repB_size] at this
  have : xS.size = 1 := rfl
  omega
theorem fresh12_ok (x y : Ob) (hx : x.names.length ≤ 2000) (hy : y.names.length ≤ 2000) (bx : ∀ s ∈ x.names, s.size ≤ smB) (bY : ∀ s ∈ y.names, s.size ≤ smB) : PCall Tryz.prog 70 [vOb x, vOb y] (vStr (repB xS 120 (maxL (names12 x y)))) := by
  have hN := names12_of x y
  have hl := names12_len x y
  have hn := names12_ok x y (by omega) (by omega)
  have hg := long12_ok (names12 x y) (fun s hs => ((hN.mem s).1 hs).elim (bx s) (bY s)) (by omega)
  refine PCall.of_fx TTok mixed Tryz.func70 rfl (by decide) rfl rfl ?_
  conv => whnf
  refine hn.use (.refl _) ?_
  conv => whnf
  refine hg.use (.refl _) ?_
  conv => whnf
  exact retP TTok rfl (.refl _) rfl
theorem fresh_not (x y : Ob) : repB xS 120 (maxL (names12 x y)) ∉ x.names ∧ repB xS 120 (maxL (names12 x y)) ∉ y.names :=
  ⟨fun h => long_notMem (((names12_of x y).mem _).2 (.inl h)), fun h => long_notMem (((names12_of x y).mem _).2 (.inr h))⟩

/-! ### A number of both -/
open Classical in
noncomputable def numB (a b : Sp) : ByteArray := if lowerS a.low b.low ≠ ⟨#[]⟩ then lowerS a.low b.low else if upperS a.high b.high ≠ ⟨#[]⟩ then upperS a.high b.high else zeroS
theorem numB_ok {a b : Sp} (ha : SpOk a) (hb : SpOk b) : NumS a b (numB a b) := by
  unfold numB
  split
  · rename_i h; exact numS_low ha hb h
  · rename_i h
    have h : lowerS a.low b.low = ⟨#[]⟩ := Classical.byContradiction h
    split
    · rename_i h2; exact numS_high ha hb h h2
    · rename_i h2; exact numS_zero ha hb h (Classical.byContradiction h2)
set_option maxHeartbeats 4000000 in
theorem number12_ok (a b : Sp) (ha : SpOk a) (hb : SpOk b) : PCall Tryz.prog 59 [vSp a, vSp b] (vStr (numB a b)) := by
  refine PCall.of_fx TTok mixed Tryz.func59 rfl (by decide) rfl rfl ?_
  have low : ∀ s, lowerS a.low b.low = s → s ≠ ⟨#[]⟩ → numB a b = s := fun s e h => by unfold numB; rw [e, if_pos h]
  have up : lowerS a.low b.low = ⟨#[]⟩ → ∀ s, upperS a.high b.high = s → s ≠ ⟨#[]⟩ → numB a b = s := fun e0 s e h => by unfold numB; rw [e0, if_neg (by simp), e, if_pos h]
  have zr : lowerS a.low b.low = ⟨#[]⟩ → upperS a.high b.high = ⟨#[]⟩ → numB a b = zeroS := fun e0 e => by unfold numB; rw [e0, if_neg (by simp), e, if_neg (by simp)]
  conv => whnf
  refine bsel_intro (fun h1 => ?_) (fun h1 => ?_)
  · have h1 : a.low ≠ ⟨#[]⟩ := strEq_not.1 (by simpa using h1)
    conv => whnf
    refine bsel_intro (fun h2 => ?_) (fun h2 => ?_)
    · have h2 : b.low ≠ ⟨#[]⟩ := strEq_not.1 (by simpa using h2)
      have an := num_TO.anti _ _ (ha.1.resolve_left h1) (hb.1.resolve_left h2)
      conv => whnf
      refine (numbers_ok b.low a.low (hb.1.resolve_left h2) (ha.1.resolve_left h1)).use (.refl _) ?_
      conv => whnf
      refine bsel_intro (fun h3 => ?_) (fun h3 => ?_)
      · have h3 : 0 < numCmp b.low a.low := by simpa using h3
        conv => whnf
        refine bsel_true (by simp [strEq_not.2 h2]) ?_
        conv => whnf
        exact retP TTok rfl (.of_eq (congrArg vStr (low _ (lowerS_lt h2 (by omega)) h2).symm)) rfl
      · have h3 : ¬0 < numCmp b.low a.low := by simpa using h3
        conv => whnf
        refine bsel_true (by simp [strEq_not.2 h1]) ?_
        conv => whnf
        exact retP TTok rfl (.of_eq (congrArg vStr (low _ (lowerS_ge h1 (by omega)) h1).symm)) rfl
    · have h2 : b.low = ⟨#[]⟩ := strEq_iff.1 (by simpa using h2)
      conv => whnf
      refine bsel_true (by simp [strEq_not.2 h1]) ?_
      conv => whnf
      exact retP TTok rfl (.of_eq (congrArg vStr (low _ (lowerS_r h2) h1).symm)) rfl
  · have h1 : a.low = ⟨#[]⟩ := strEq_iff.1 (by simpa using h1)
    conv => whnf
    refine bsel_intro (fun h2 => ?_) (fun h2 => ?_)
    · have h2 : b.low ≠ ⟨#[]⟩ := strEq_not.1 (by simpa using h2)
      conv => whnf
      exact retP TTok rfl (.of_eq (congrArg vStr (low _ (lowerS_e h1) h2).symm)) rfl
    · have h2 : b.low = ⟨#[]⟩ := strEq_iff.1 (by simpa using h2)
      have e0 : lowerS a.low b.low = ⟨#[]⟩ := (lowerS_e h1).trans h2
      conv => whnf
      refine bsel_intro (fun h3 => ?_) (fun h3 => ?_)
      · have h3 : a.high ≠ ⟨#[]⟩ := strEq_not.1 (by simpa using h3)
        conv => whnf
        refine bsel_intro (fun h4 => ?_) (fun h4 => ?_)
        · have h4 : b.high ≠ ⟨#[]⟩ := strEq_not.1 (by simpa using h4)
          have an := num_TO.anti _ _ (ha.2.resolve_left h3) (hb.2.resolve_left h4)
          conv => whnf
          refine (numbers_ok b.high a.high (hb.2.resolve_left h4) (ha.2.resolve_left h3)).use (.refl _) ?_
          conv => whnf
          refine bsel_intro (fun h5 => ?_) (fun h5 => ?_)
          · have h5 : numCmp b.high a.high < 0 := by simpa using h5
            conv => whnf
            refine bsel_false (by simp [strEq_not.2 h4]) ?_
            conv => whnf
            exact retP TTok rfl (.of_eq (congrArg vStr (up e0 _ (upperS_lt h4 (by omega)) h4).symm)) rfl
          · have h5 : ¬numCmp b.high a.high < 0 := by simpa using h5
            conv => whnf
            refine bsel_false (by simp [strEq_not.2 h3]) ?_
            conv => whnf
            exact retP TTok rfl (.of_eq (congrArg vStr (up e0 _ (upperS_ge h3 (by omega)) h3).symm)) rfl
        · have h4 : b.high = ⟨#[]⟩ := strEq_iff.1 (by simpa using h4)
          conv => whnf
          refine bsel_false (by simp [strEq_not.2 h3]) ?_
          conv => whnf
          exact retP TTok rfl (.of_eq (congrArg vStr (up e0 _ (upperS_r h4) h3).symm)) rfl
      · have h3 : a.high = ⟨#[]⟩ := strEq_iff.1 (by simpa using h3)
        conv => whnf
        refine bsel_intro (fun h4 => ?_) (fun h4 => ?_)
        · have h4 : b.high = ⟨#[]⟩ := strEq_iff.1 (by simpa using h4)
          conv => whnf
          exact retP TTok rfl (.of_eq (congrArg vStr (zr e0 ((upperS_e h3).trans h4)).symm)) rfl
        · have h4 : b.high ≠ ⟨#[]⟩ := strEq_not.1 (by simpa using h4)
          conv => whnf
          exact retP TTok rfl (.of_eq (congrArg vStr (up e0 _ (upperS_e h3) h4).symm)) rfl

/-! ### So many items -/
set_option maxHeartbeats 2000000 in
theorem times12_ok (x : Val) (n : Nat) (hn : n ≤ 100000) : PCall Tryz.prog 65 [vVal x, vInt n] (vVal (vArr (List.replicate n x))) := by
  refine PCall.of_fx TTok mixed Tryz.func65 rfl (by decide) rfl rfl ?_
  conv => whnf
  refine ⟨SExec.up 33 5 ⟨20, [(6, vInt (0 : Nat)), (5, .bx 2 0), (4, .bx 1 0), (2, .bx 0 0), (1, vInt n)], [.row 33 (cellsV (vVal x)), .row 33 zVal, .row 33 [.d (.lit (.int .i64 5)), .d (.lit (.string ⟨#[]⟩)), .d (.lit (.string ⟨#[]⟩)), .gs 3 [], .d (.lit (.slice none 0 0))], .tok 33 5 0]⟩ _ rfl
    (.cons (.refl _) (.cons (.refl _) (.cons (.row (.cons (.refl _ _) (.cons (.refl _ _) (.cons (.refl _ _) (.cons (.nil _) (.cons (.refl _ _) .nil)))))) .nil))) rfl (.cons (.refl _ _) (.cons (.refl _ _) (.cons (.refl _ _) (.cons (.refl _ _) (.cons (.refl _ _) .nil))))) ?_⟩
  refine SExec.loop_n n (fun k => ⟨20, [(6, vInt k), (5, .bx 2 0), (4, .bx 1 0), (2, .bx 0 0), (1, vInt n)], [.row 33 (cellsV (vVal x)), .row 33 zVal, .row 33 [.d (.lit (.int .i64 5)), .d (.lit (.string ⟨#[]⟩)), .d (.lit (.string ⟨#[]⟩)), .gs 3 ((List.replicate k x).map Val.cells), .d (.lit (.slice none 0 0))], .tok 33 5 (List.replicate k x).length]⟩)
    (fun k => Nat.le_refl _) (St.subD_of rfl [] rfl rfl (.cons (.refl _) rfl (.cons (.refl _) rfl (.cons (.refl _) rfl (.cons (.refl _) rfl (.cons (.refl _) rfl .nil)))))) ?_
  intro k hk
  refine fx_sound TTok mixed ?_
  conv => whnf
  refine bsel_intro (fun hlt => ?_) (fun hlt => ?_)
  · have hlt : k < n := by simpa using hlt
    conv => whnf
    refine ⟨appC (j := tt33) (by simp) rfl (by decide) (rowsLen (f := Val.cells) valLen _) (oneLen rfl) rfl (by decide) (by simp [chunk]; omega), ?_⟩
    conv => whnf
    refine ⟨hlt, St.subD_of rfl [] ?_ rfl (.cons (.of_eq (vInt_succ k (by omega))) rfl (.cons (.refl _) rfl (.cons (.refl _) rfl (.cons (.refl _) rfl (.cons (.refl _) rfl .nil)))))⟩
    show _ = [O.row _ _, O.row _ _, O.row _ [_, _, _, .gs 3 ((List.replicate (k + 1) x).map Val.cells), _], .tok _ _ (List.replicate (k + 1) x).length]
    rw [List.replicate_succ']
    exact congr4 (fun (a : List (List D)) (b : Nat) (_ _ : Unit) => [O.row 33 (cellsV (vVal x)), .row 33 zVal, .row 33 [.d (.lit (.int .i64 5)), .d (.lit (.string ⟨#[]⟩)), .d (.lit (.string ⟨#[]⟩)), .gs 3 a, .d (.lit (.slice none 0 0))], .tok 33 5 b])
      (map_snoc (f := Val.cells) (x := x) (Val.cells_eq x).symm) (len_snoc (f := Val.cells) x) (rfl : () = ()) (rfl : () = ())
  · have hge : k = n := by have : n ≤ k := by simpa using hlt
                           omega
    subst hge
    conv => whnf
    exact retP TTok rfl (.agg (.cons (.refl _) (.cons (.refl _) (.cons (.refl _) (.cons (.gs_sl _ _) (.cons .nil_sl .nil)))))) rfl
end Go.Ab
set_option linter.unusedVariables false
set_option linter.unusedSimpArgs false
set_option maxRecDepth 4000
namespace Go.Ab
open Go.Proofs

/-! ### A value of both that is no array and no object -/
def Hit (x y : Ty) : Prop := ∃ (h : 0 < x.nums.length) (h' : 0 < y.nums.length), InSp (numB x.nums[0] y.nums[0]) x.nums[0] ∧ InSp (numB x.nums[0] y.nums[0]) y.nums[0]
noncomputable def hitN (x y : Ty) : ByteArray := numB (x.nums.getD 0 spOpen) (y.nums.getD 0 spOpen)
open Classical in
noncomputable def scalT (x y : Ty) : Val × Bool :=
  if x.anyText = true ∧ y.anyText = true then (vTxt ⟨#[]⟩, true)
  else match x.texts.find? (fun s => y.anyText || tt (s ∈ y.texts)) with
    | some s => (vTxt s, true)
    | none => if x.anyText = true ∧ 0 < y.texts.length then (vTxt (y.texts.getD 0 ⟨#[]⟩), true) else (vk 0, false)
open Classical in
noncomputable def scalV (x y : Ty) : Val × Bool :=
  if x.null = true ∧ y.null = true then (vk 0, true) else if x.fls = true ∧ y.fls = true then (vk 1, true) else if x.tru = true ∧ y.tru = true then (vk 2, true)
  else if Hit x y then (vNum (hitN x y), true) else scalT x y
/-- What is asked of a type that is laid out. -/
structure LaidW (x : Ty) : Prop where
  all : x.all = false
  nums : ∀ s ∈ x.nums, SpOk s
  one : x.nums.length ≤ 1
  utf : ∀ s ∈ x.texts, Utf s
  any : x.anyText = true → x.texts = []
theorem scalT_ok {x y : Ty} (wx : LaidW x) (wy : LaidW y) (hw : WordsAp x y) (hn : NumsAp x y) : ScalS x y (scalT x y).1 (scalT x y).2 := by
  unfold scalT
  split
  · rename_i h
    exact ⟨vTxt_g utf_empty, fun _ => ⟨.anyText rfl h.1, .anyText rfl h.2⟩, fun e => by cases e⟩
  · rename_i h
    split
    · rename_i s hs
      have h1 := List.mem_of_find?_eq_some hs
      have h2 := List.find?_some hs
      simp only [Bool.or_eq_true, tt_iff] at h2
      exact ⟨vTxt_g (wx.utf s h1), fun _ => ⟨.text rfl h1, h2.elim (fun e => .anyText rfl e) fun e => .text rfl e⟩, fun e => by cases e⟩
    · rename_i hs
      have hs := List.find?_eq_none.1 hs
      simp only [Bool.or_eq_true, tt_iff, not_or] at hs
      split
      · rename_i h2
        have hm : y.texts.getD 0 ⟨#[]⟩ ∈ y.texts := by simp [List.getD_eq_getElem?_getD, h2.2]
        exact ⟨vTxt_g (wy.utf _ hm), fun _ => ⟨.anyText rfl h2.1, .text rfl hm⟩, fun e => by cases e⟩
      · rename_i h2
        refine ⟨vk_g (by omega), fun e => (by cases e), fun _ => ⟨hw, hn, fun ho => ?_, fun ha hb s hs' => (hs s hs').2⟩⟩
        refine ⟨h, ?_, ?_⟩
        · rcases ho with ho | ho
          · exact wx.any ho
          · cases hx : x.texts with
            | nil => rfl
            | cons s l => exact absurd ho (hs s (by rw [hx]; simp)).1
        · rcases ho with ho | ho
          · cases hy : y.texts with
            | nil => rfl
            | cons s l => exact absurd ⟨ho, by rw [hy]; simp⟩ h2
          · exact wy.any ho
theorem scalV_ok {x y : Ty} (wx : LaidW x) (wy : LaidW y) : ScalS x y (scalV x y).1 (scalV x y).2 := by
  unfold scalV
  split
  · rename_i h; exact ⟨vk_g (by omega), fun _ => ⟨.null rfl h.1, .null rfl h.2⟩, fun e => by cases e⟩
  · rename_i h0
    split
    · rename_i h; exact ⟨vk_g (by omega), fun _ => ⟨.fls rfl h.1, .fls rfl h.2⟩, fun e => by cases e⟩
    · rename_i h1
      split
      · rename_i h; exact ⟨vk_g (by omega), fun _ => ⟨.tru rfl h.1, .tru rfl h.2⟩, fun e => by cases e⟩
      · rename_i h2
        split
        · rename_i h
          obtain ⟨l1, l2, i1, i2⟩ := h
          have e : hitN x y = numB x.nums[0] y.nums[0] := by simp [hitN, List.getD_eq_getElem?_getD, l1, l2]
          rw [e]
          exact ⟨vNum_g (numB_ok (wx.nums _ (List.getElem_mem l1)) (wy.nums _ (List.getElem_mem l2))).ok, fun _ => ⟨.num rfl l1 i1, .num rfl l2 i2⟩, fun e => by cases e⟩
        · rename_i h
          exact scalT_ok wx wy ⟨h0, h1, h2⟩ fun l1 l2 => Classical.byContradiction fun hh => h ⟨l1, l2, (numB_ok (wx.nums _ (List.getElem_mem l1)) (wy.nums _ (List.getElem_mem l2))).both hh⟩

def vVB (v : Val) (f : Bool) : V := .tup [vVal v, vBool f]
theorem entVB {a b c : V} {v : Val} {f : Bool} (h : EntV a (.d (.lit (.int .i64 v.kind)))) (h1 : EntV b (.d (.lit (.string v.num)))) (h2 : EntV c (.d (.lit (.string v.text)))) (hi : v.items = []) (hk : v.keys = []) :
    EntV (.tup [.agg [a, b, c, .d (.lit (.slice none 0 0)), .d (.lit (.slice none 0 0))], vBool f]) (vVB v f) := by
  refine .tup (.cons (.agg (.cons h (.cons h1 (.cons h2 (.cons ?_ (.cons ?_ .nil)))))) (.cons (.refl _) .nil))
  · rw [hi]; exact .nil_sl
  · rw [hk]; exact .nil_sl
theorem entVB' {a b c : V} {v : Val} {f : Bool} {p : Val × Bool} (e : p = (v, f)) (h : EntV a (.d (.lit (.int .i64 v.kind)))) (h1 : EntV b (.d (.lit (.string v.num)))) (h2 : EntV c (.d (.lit (.string v.text)))) (hi : v.items = []) (hk : v.keys = []) :
    EntV (.tup [.agg [a, b, c, .d (.lit (.slice none 0 0)), .d (.lit (.slice none 0 0))], vBool f]) (vVB p.1 p.2) := by subst e; exact entVB h h1 h2 hi hk

theorem find_at {α : Type} {p : α → Bool} : ∀ {l : List α} {k : Nat} (h : k < l.length), p l[k] = true → (∀ j (h : j < l.length), j < k → p l[j] = false) → l.find? p = some l[k]
  | x :: l, 0, h, hp, _ => by rw [List.find?_cons]; simp only [List.getElem_cons_zero] at hp ⊢; rw [hp]
  | x :: l, k + 1, h, hp, hj => by
    have := hj 0 (by simp) (by omega)
    rw [List.find?_cons]
    simp only [List.getElem_cons_zero] at this
    rw [this]
    have r := find_at (l := l) (k := k) (by simpa using h) (by simpa using hp) fun j h' hjk => by have := hj (j + 1) (by simpa using h') (by omega); rwa [List.getElem_cons_succ] at this
    rw [r]; simp

noncomputable def scalSt (x y : Ty) : St := ⟨110, [(4, .bx 2 0), (3, .bx 1 0), (2, .bx 0 0)], [.row 27 (cellsV (vTy x)), .row 27 (cellsV (vTy y)), .row 33 zVal]⟩
abbrev scalQ (x y : Ty) : Exit → St → Prop := RetF Tryz.prog TT Tryz.f44 0 (fun r' _ => r' = vVB (scalV x y).1 (scalV x y).2)
noncomputable abbrev scalC : Code := Tryz.f44.body.getD .skip

set_option maxHeartbeats 8000000 in
theorem scalTexts (x y : Ty) (hb : x.texts.length ≤ 140737488355328) (e2 : scalV x y = scalT x y) : SExec Tryz.prog (restOf 5 scalC) (scalSt x y) (scalQ x y) := by
  refine fx_sound TTok mixed ?_
  unfold scalQ
  rw [e2]
  conv => whnf
  refine bsel_intro (fun p => ?_) (fun p => ?_)
  case' refine_1 =>
    conv => whnf
    refine bsel_intro (fun q => ?_) (fun q => ?_)
    case' refine_1 =>
      conv => whnf
      exact retP TTok rfl (entVB' (v := vTxt ⟨#[]⟩) (by unfold scalT; rw [if_pos ⟨by simpa using p, by simpa using q⟩]) (.refl _) (.refl _) (.refl _) rfl rfl) rfl
    have hA : ¬(x.anyText = true ∧ y.anyText = true) := fun h => by simp [h.2] at q
  case' refine_2 =>
    have hA : ¬(x.anyText = true ∧ y.anyText = true) := fun h => by simp [h.1] at p
  all_goals
    clear p
    conv => whnf
    refine ⟨SExec.loop_p x.texts.length (fun k => ∀ j (h : j < x.texts.length), j < k → (y.anyText || tt (x.texts[j] ∈ y.texts)) = false) (fun k => ⟨110, [(7, vInt k), (4, .bx 2 0), (3, .bx 1 0), (2, .bx 0 0)], [.row 27 (cellsV (vTy x)), .row 27 (cellsV (vTy y)), .row 33 zVal]⟩) (fun j _ h => absurd h (Nat.not_lt_zero j)) (fun k => Nat.le_refl _)
      (St.subD_of rfl [] rfl rfl (.cons (.refl _) rfl (.cons (.refl _) rfl (.cons (.refl _) rfl (.cons (.refl _) rfl .nil))))) ?_⟩
    intro k hk hI
    refine fx_sound TTok mixed ?_
    conv => whnf
    refine bsel_intro (fun hlt => ?_) (fun hlt => ?_)
    · have hlt : k < x.texts.length := by simpa using hlt
      have found : (y.anyText || tt (x.texts[k] ∈ y.texts)) = true → scalT x y = (vTxt x.texts[k], true) := fun h => by
        unfold scalT; rw [if_neg hA, find_at hlt h hI]
      have next : (y.anyText || tt (x.texts[k] ∈ y.texts)) = false → ∀ j (h : j < x.texts.length), j < k + 1 → (y.anyText || tt (x.texts[j] ∈ y.texts)) = false := fun h j hj hjk => by
        by_cases e : j = k
        · subst e; exact h
        · exact hI j hj (by omega)
      conv => whnf
      (refine ⟨by decide +kernel, ?_⟩; conv => whnf)
      refine bsel_intro (fun a => ?_) (fun a => ?_)
      · have a : y.anyText = false := beqF a
        conv => whnf
        refine idxStr hlt rfl ?_
        conv => whnf
        refine (has_ok y.texts _).useQ (.refl _) ?_
        conv => whnf
        refine bsel_intro (fun b => ?_) (fun b => ?_)
        · conv => whnf
          refine idxStr hlt rfl ?_
          conv => whnf
          exact retP TTok rfl (entVB' (v := vTxt x.texts[k]) (found (by rw [a]; exact b)) (.refl _) (.refl _) (.refl _) rfl rfl) rfl
        · conv => whnf
          exact ⟨⟨hlt, next (by rw [a]; exact b)⟩, St.subD_of rfl _ rfl rfl (.cons (.of_eq (vInt_succ k (by omega))) rfl (.cons (.refl _) rfl (.cons (.refl _) rfl (.cons (.refl _) rfl .nil))))⟩
      · have a : y.anyText = true := by simpa using a
        conv => whnf
        refine idxStr hlt rfl ?_
        conv => whnf
        exact retP TTok rfl (entVB' (v := vTxt x.texts[k]) (found (by rw [a]; rfl)) (.refl _) (.refl _) (.refl _) rfl rfl) rfl
    · have hge : x.texts.length ≤ k := by simpa using hlt
      have none : x.texts.find? (fun s => y.anyText || tt (s ∈ y.texts)) = none := List.find?_eq_none.2 fun s hs => by
        obtain ⟨j, hj, rfl⟩ := List.mem_iff_getElem.1 hs
        rw [hI j hj (by omega)]; simp
      have last : ∀ {p : Val × Bool}, (if x.anyText = true ∧ 0 < y.texts.length then (vTxt (y.texts.getD 0 ⟨#[]⟩), true) else (vk 0, false)) = p → scalT x y = p := fun h => by unfold scalT; rw [if_neg hA, none]; exact h
      conv => whnf
      refine bsel_intro (fun p => ?_) (fun p => ?_)
      · conv => whnf
        refine bsel_intro (fun q => ?_) (fun q => ?_)
        · have q : 0 < y.texts.length := by simpa [ofNat_cast] using q
          conv => whnf
          refine idxStr (k := 0) q rfl ?_
          conv => whnf
          exact retP TTok rfl (entVB' (v := vTxt y.texts[0]) (last (by rw [if_pos ⟨by simpa using p, q⟩]; simp [List.getD_eq_getElem?_getD, q])) (.refl _) (.refl _) (.refl _) rfl rfl) rfl
        · have q : ¬0 < y.texts.length := by simpa [ofNat_cast] using q
          conv => whnf
          exact retP TTok rfl (entVB' (v := vk 0) (last (by rw [if_neg (fun h => q h.2)])) (.refl _) (.refl _) (.refl _) rfl rfl) rfl
      · conv => whnf
        exact retP TTok rfl (entVB' (v := vk 0) (last (by rw [if_neg (fun h => by simp [h.1] at p)])) (.refl _) (.refl _) (.refl _) rfl rfl) rfl

set_option maxHeartbeats 8000000 in
theorem scalNums (x y : Ty) (wx : LaidW x) (wy : LaidW y) (hb : x.texts.length ≤ 140737488355328) (e0 : ¬Hit x y → scalV x y = scalT x y) (e1 : Hit x y → scalV x y = (vNum (hitN x y), true)) : SExec Tryz.prog (restOf 4 scalC) (scalSt x y) (scalQ x y) := by
  have tail := fun e => scalTexts x y hb e
  refine fxCut_sound TTok mixed 1 ?_
  unfold scalQ at *
  conv => whnf
  by_cases ha : 0 < x.nums.length
  · refine bsel_true (by simpa [ofNat_cast] using ha) ?_
    conv => whnf
    by_cases hb' : 0 < y.nums.length
    · have hn := number12_ok x.nums[0] y.nums[0] (wx.nums _ (List.getElem_mem ha)) (wy.nums _ (List.getElem_mem hb'))
      have hk := (numB_ok (wx.nums _ (List.getElem_mem ha)) (wy.nums _ (List.getElem_mem hb'))).ok
      have eh : hitN x y = numB x.nums[0] y.nums[0] := by simp [hitN, List.getD_eq_getElem?_getD, ha, hb']
      refine bsel_true (by simpa [ofNat_cast] using hb') ?_
      conv => whnf
      (refine ⟨by decide +kernel, ?_⟩; conv => whnf)
      refine idxSp (k := 0) ha rfl ?_
      conv => whnf
      refine idxSp (k := 0) hb' rfl ?_
      conv => whnf
      refine hn.useQ (.refl _) ?_
      conv => whnf
      refine idxSp (k := 0) ha rfl ?_
      conv => whnf
      refine (inSpan_ok _ _ hk (wx.nums _ (List.getElem_mem ha))).use (.refl _) ?_
      conv => whnf
      refine bsel_intro (fun i1 => ?_) (fun i1 => ?_)
      · have i1 : InSp (numB x.nums[0] y.nums[0]) x.nums[0] := tt_iff.1 (by simpa using i1)
        conv => whnf
        refine idxSp (k := 0) hb' rfl ?_
        conv => whnf
        refine (inSpan_ok _ _ hk (wy.nums _ (List.getElem_mem hb'))).use (.refl _) ?_
        conv => whnf
        refine bsel_intro (fun i2 => ?_) (fun i2 => ?_)
        · have i2 : InSp (numB x.nums[0] y.nums[0]) y.nums[0] := tt_iff.1 (by simpa using i2)
          conv => whnf
          exact retP TTok rfl (entVB' (v := vNum (numB x.nums[0] y.nums[0])) (by rw [e1 ⟨ha, hb', i1, i2⟩, eh]) (.refl _) (.refl _) (.refl _) rfl rfl) rfl
        · have i2 : ¬InSp (numB x.nums[0] y.nums[0]) y.nums[0] := tt_not.1 (by simpa using i2)
          exact SExec.sub (s' := scalSt x y) (St.sub_of rfl rfl (.cons (.refl _) (.cons (.refl _) (.cons (.refl _) .nil)))) (tail (e0 fun ⟨_, _, _, h⟩ => i2 h))
      · have i1 : ¬InSp (numB x.nums[0] y.nums[0]) x.nums[0] := tt_not.1 (by simpa using i1)
        exact SExec.sub (s' := scalSt x y) (St.sub_of rfl rfl (.cons (.refl _) (.cons (.refl _) (.cons (.refl _) .nil)))) (tail (e0 fun ⟨_, _, h, _⟩ => i1 h))
    · refine bsel_false (by simpa [ofNat_cast] using hb') ?_
      exact SExec.sub (s' := scalSt x y) (St.sub_of rfl rfl (.cons (.refl _) (.cons (.refl _) (.cons (.refl _) .nil)))) (tail (e0 fun ⟨_, h, _⟩ => hb' h))
  · refine bsel_false (by simpa [ofNat_cast] using ha) ?_
    exact SExec.sub (s' := scalSt x y) (St.sub_of rfl rfl (.cons (.refl _) (.cons (.refl _) (.cons (.refl _) .nil)))) (tail (e0 fun ⟨h, _⟩ => ha h))

set_option maxHeartbeats 8000000 in
theorem scalar12_ok (x y : Ty) (wx : LaidW x) (wy : LaidW y) : PCall Tryz.prog 44 [vTy x, vTy y] (vVB (scalV x y).1 (scalV x y).2) := by
  refine PCall.bd Tryz.func44 rfl (by decide) rfl rfl (fun hbd => ?_)
  have hb := (deep_of (hbd 0 (by simp))).bd.texts
  simp only [maxRows] at hb
  refine PCall.of_cut TTok mixed 4 Tryz.func44 rfl (by decide) rfl rfl ?_
  have tail := fun e e' => scalNums x y wx wy hb e e'
  conv => whnf
  refine bsel_intro (fun p => ?_) (fun p => ?_)
  case' refine_1 =>
    conv => whnf
    refine bsel_intro (fun q => ?_) (fun q => ?_)
    case' refine_1 =>
      conv => whnf
      exact retP TTok rfl (entVB' (v := vk 0) (by unfold scalV; rw [if_pos ⟨by simpa using p, by simpa using q⟩]) (.refl _) (.refl _) (.refl _) rfl rfl) rfl
    have h0 : ¬(x.null = true ∧ y.null = true) := fun h => by simp [h.2] at q
    clear p q
  case' refine_2 =>
    have h0 : ¬(x.null = true ∧ y.null = true) := fun h => by simp [h.1] at p
    clear p
  all_goals
    conv => whnf
    refine bsel_intro (fun p => ?_) (fun p => ?_)
    case' refine_1 =>
      conv => whnf
      refine bsel_intro (fun q => ?_) (fun q => ?_)
      case' refine_1 =>
        conv => whnf
        exact retP TTok rfl (entVB' (v := vk 1) (by unfold scalV; rw [if_neg h0, if_pos ⟨by simpa using p, by simpa using q⟩]) (.refl _) (.refl _) (.refl _) rfl rfl) rfl
      have h1 : ¬(x.fls = true ∧ y.fls = true) := fun h => by simp [h.2] at q
      clear p q
    case' refine_2 =>
      have h1 : ¬(x.fls = true ∧ y.fls = true) := fun h => by simp [h.1] at p
      clear p
  all_goals
    conv => whnf
    refine bsel_intro (fun p => ?_) (fun p => ?_)
    case' refine_1 =>
      conv => whnf
      refine bsel_intro (fun q => ?_) (fun q => ?_)
      case' refine_1 =>
        conv => whnf
        exact retP TTok rfl (entVB' (v := vk 2) (by unfold scalV; rw [if_neg h0, if_neg h1, if_pos ⟨by simpa using p, by simpa using q⟩]) (.refl _) (.refl _) (.refl _) rfl rfl) rfl
      have h2 : ¬(x.tru = true ∧ y.tru = true) := fun h => by simp [h.2] at q
      clear p q
    case' refine_2 =>
      have h2 : ¬(x.tru = true ∧ y.tru = true) := fun h => by simp [h.1] at p
      clear p
  all_goals
    exact SExec.sub (s' := scalSt x y) (St.sub_of rfl rfl (.cons (.refl _) (.cons (.refl _) (.cons (.refl _) .nil)))) (tail (fun hh => by unfold scalV; rw [if_neg h0, if_neg h1, if_neg h2, if_neg hh]) (fun hh => by unfold scalV; rw [if_neg h0, if_neg h1, if_neg h2, if_pos hh]))
end Go.Ab
