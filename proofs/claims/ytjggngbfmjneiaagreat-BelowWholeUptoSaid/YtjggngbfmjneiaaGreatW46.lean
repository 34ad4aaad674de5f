import Derived.Test.YtjggngbfmjneiaaGreatW45
set_option linter.unusedVariables false
set_option linter.unusedSimpArgs false
set_option maxRecDepth 4000
namespace Go.Ab
open Go.Proofs

/-- What Apart answers, of two types. -/
def ApaC (a b : Ty) : Prop := PCall Tryz.prog 15 [vTy a, vTy b] (vBool (tt (ApartP a b)))
def UnlikeAt (x y : Ob) (n : ByteArray) : Prop := ((fieldO x n).2 = true ∨ (fieldO y n).2 = true) ∧ ApartP (fieldO x n).1 (fieldO y n).1

theorem unlike1_ok (x y : Ob) (wx : ObW x) (wy : ObW y) (n : ByteArray) (hc : ApaC (fieldO x n).1 (fieldO y n).1) :
    HCall Tryz.prog 104 [vStr n, .bx 0 0, .bx 1 0] [.row 44 (cellsV (vOb x)), .row 44 (cellsV (vOb y))] (vBool (tt (UnlikeAt x y n))) := by
  refine HCall.of_fx TTok mixed Tryz.func104 rfl (by decide) rfl ?_
  conv => whnf
  refine (field_ok x n wx.sorted wx.fields wx.must).use (.refl _) ?_
  conv => whnf
  refine (field_ok y n wy.sorted wy.fields wy.must).use (.refl _) ?_
  conv => whnf
  cases hx2 : (fieldO x n).2 <;> cases hy2 : (fieldO y n).2
  · conv => whnf
    exact retH (H := [.row 44 (cellsV (vOb x)), .row 44 (cellsV (vOb y))]) (extra := [.row 27 (cellsV (vTy (fieldO x n).1)), .row 27 (cellsV (vTy (fieldO y n).1))]) TTok rfl rfl rfl (.of_eq (by rw [tt_not.2 (fun h => by rcases h.1 with h | h <;> simp_all)]; rfl)) rfl
  all_goals
    conv => whnf
    refine hc.use (.refl _) ?_
    conv => whnf
    exact retH (H := [.row 44 (cellsV (vOb x)), .row 44 (cellsV (vOb y))]) (extra := [.row 27 (cellsV (vTy (fieldO x n).1)), .row 27 (cellsV (vTy (fieldO y n).1))]) TTok rfl rfl rfl (.of_eq (congrArg vBool (tt_congr ⟨fun h => ⟨by simp [hx2, hy2], h⟩, fun h => h.2⟩))) rfl

theorem unlike_ok (hN : NamesC) (x y : Ob) (wx : ObW x) (wy : ObW y) (hc : ∀ n, ApaC (fieldO x n).1 (fieldO y n).1) : PCall Tryz.prog 86 [vOb x, vOb y] (vBool (tt (UnlikeP x y))) := by
  obtain ⟨l, hl, hn, hmem⟩ := hN x y wx.few wy.few
  refine PCall.of_fx TTok mixed Tryz.func86 rfl (by decide) rfl rfl ?_
  conv => whnf
  refine hn.use (.refl _) ?_
  conv => whnf
  refine (containsFunc_ok _ (.bx 0 0) [.bx 1 0] _ rfl rfl (fun s => tt (UnlikeAt x y s)) l (by omega) fun s _ => unlike1_ok x y wx wy s (hc s)).use (.refl _) ?_
  conv => whnf
  refine retB TTok rfl (tt_eq ?_)
  rw [List.any_eq_true]
  constructor
  · rintro ⟨n, hn, h⟩
    have h := tt_iff.1 h
    exact ⟨n, (hmem n).1 hn, h.1, h.2⟩
  · rintro ⟨n, hn, h1, h2⟩
    exact ⟨n, (hmem n).2 hn, tt_iff.2 ⟨h1, h2⟩⟩

set_option maxHeartbeats 2000000 in
theorem aobjects_ok (hN : NamesC) (a b : Ty) (wa : ∀ x ∈ a.objects, ObW x) (wb : ∀ y ∈ b.objects, ObW y) (hc : ∀ x ∈ a.objects, ∀ y ∈ b.objects, ∀ n, ApaC (fieldO x n).1 (fieldO y n).1) :
    PCall Tryz.prog 51 [vTy a, vTy b] (vBool (tt (ObjsAp a b))) := by
  refine PCall.bd Tryz.func51 rfl (by decide) rfl rfl (fun hbd => ?_)
  have hb := (deep_of (hbd 0 (by simp))).bd.objects
  have hb2 := (deep_of (hbd 1 (by simp))).bd.objects
  simp only [maxRows] at hb hb2
  refine PCall.of_fx TTok mixed Tryz.func51 rfl (by decide) rfl rfl ?_
  conv => whnf
  refine ⟨SExec.loop_p a.objects.length (fun k => ∀ j (h : j < a.objects.length), j < k → ∀ y ∈ b.objects, UnlikeP a.objects[j] y) (fun k => ⟨29, [(12, vInt k), (11, vInt a.objects.length), (10, vObs a.objects), (3, .bx 1 0), (2, .bx 0 0)], [.row 58 (cellsV (vTy a)), .row 58 (cellsV (vTy b))]⟩) (fun j _ h => absurd h (Nat.not_lt_zero _))
    (fun k => Nat.le_refl _) (St.subD_of rfl [] rfl rfl (.cons (.refl _) rfl (.cons (.of_eq (vInt_len ..)) rfl (.cons (.refl _) rfl (.cons (.refl _) rfl (.cons (.refl _) rfl .nil)))))) ?_⟩
  intro k hk hI
  refine fx_sound TTok mixed ?_
  conv => whnf
  refine bsel_intro (fun hlt => ?_) (fun hlt => ?_)
  · have hlt : k < a.objects.length := by simpa using hlt
    have hm := List.getElem_mem hlt
    conv => whnf
    refine idxOb hlt rfl ?_
    conv => whnf
    refine ⟨SExec.loop_p b.objects.length (fun i => ∀ j (h : j < b.objects.length), j < i → UnlikeP a.objects[k] b.objects[j]) (fun i => ⟨29, [(19, vInt i), (18, vInt b.objects.length), (17, vObs b.objects), (6, .bx 2 0), (12, vInt k), (11, vInt a.objects.length), (10, vObs a.objects), (3, .bx 1 0), (2, .bx 0 0)], [.row 58 (cellsV (vTy a)), .row 58 (cellsV (vTy b)), .row 44 (cellsV (vOb a.objects[k]))]⟩) (fun j _ h => absurd h (Nat.not_lt_zero _))
      (fun i => Nat.le_refl _) (St.subD_of rfl [] rfl rfl (.cons (.refl _) rfl (.cons (.of_eq (vInt_len ..)) rfl (.cons (.refl _) rfl (.cons (.refl _) rfl (.cons (.refl _) rfl (.cons (.refl _) rfl (.cons (.refl _) rfl (.cons (.refl _) rfl (.cons (.refl _) rfl .nil)))))))))) ?_⟩
    intro i hi hJ
    refine fx_sound TTok mixed ?_
    conv => whnf
    refine bsel_intro (fun hlt2 => ?_) (fun hlt2 => ?_)
    · have hlt2 : i < b.objects.length := by simpa using hlt2
      have hm2 := List.getElem_mem hlt2
      conv => whnf
      refine idxOb hlt2 rfl ?_
      conv => whnf
      refine (unlike_ok hN _ _ (wa _ hm) (wb _ hm2) (hc _ hm _ hm2)).use (.refl _) ?_
      conv => whnf
      refine bsel_intro (fun h1 => ?_) (fun h1 => ?_)
      · have h1 : ¬UnlikeP a.objects[k] b.objects[i] := tt_not.1 (by simpa only [Bool.not_eq_true'] using h1)
        conv => whnf
        exact retB TTok rfl (tt_f fun h => h1 (h _ hm _ hm2))
      · have h1 : UnlikeP a.objects[k] b.objects[i] := tt_iff.1 (by simpa only [Bool.not_eq_false'] using h1)
        conv => whnf
        exact ⟨⟨hlt2, all_next' (p := fun y => UnlikeP a.objects[k] y) hlt2 hJ h1⟩, St.subD_of rfl _ rfl rfl (.cons (.of_eq (vInt_succ i (by omega))) rfl (.cons (.refl _) rfl (.cons (.refl _) rfl (.cons (.refl _) rfl (.cons (.refl _) rfl (.cons (.refl _) rfl (.cons (.refl _) rfl (.cons (.refl _) rfl (.cons (.refl _) rfl .nil)))))))))⟩
    · have hge2 : b.objects.length ≤ i := by simpa using hlt2
      conv => whnf
      refine ⟨⟨hlt, all_next' (p := fun x => ∀ y ∈ b.objects, UnlikeP x y) hlt hI fun y hy => ?_⟩, St.subD_of rfl _ rfl rfl (.cons (.of_eq (vInt_succ k (by omega))) rfl (.cons (.refl _) rfl (.cons (.refl _) rfl (.cons (.refl _) rfl (.cons (.refl _) rfl .nil)))))⟩
      obtain ⟨j, hj, rfl⟩ := List.mem_iff_getElem.1 hy
      exact hJ j hj (by omega)
  · have hge : a.objects.length ≤ k := by simpa using hlt
    conv => whnf
    refine retB TTok rfl (tt_t fun x hx => ?_)
    obtain ⟨j, hj, rfl⟩ := List.mem_iff_getElem.1 hx
    exact hI j hj (by omega)
end Go.Ab
