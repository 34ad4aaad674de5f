import Derived.Test.YtjggngbfmjneiaaGreatW80
set_option linter.unusedVariables false
set_option linter.unusedSimpArgs false
set_option maxRecDepth 4000
namespace Go.Ab
open Go.Proofs

set_option maxHeartbeats 8000000 in
theorem outObj12_ok (x y : Ob) (wx : ObW x) (wy : ObW y) (bx : ∀ s ∈ x.names, s.size ≤ smB) (bY : ∀ s ∈ y.names, s.size ≤ smB) (ux : ∀ n ∈ x.names, Utf n) (uy : ∀ n ∈ y.names, Utf n) {v0 rv : Val} {rf : Bool} {ov : ByteArray → Val} {of : ByteArray → Bool}
    (hs : PCall Tryz.prog 27 [vOb x] (vVal v0)) (g0 : SomeObS x v0) (hb : ∀ n, RBelC (fieldO x n).1 (fieldO y n).1)
    (ho : ∀ n, PCall Tryz.prog 10 [vTy (fieldO x n).1, vTy (fieldO y n).1] (vVB (ov n) (of n))) (go : ∀ n, Vg (ov n))
    (hr : PCall Tryz.prog 10 [vTy x.rest, vTy y.rest] (vVB rv rf)) (gr : Vg rv) :
    PCall Tryz.prog 29 [vOb x, vOb y] (vVB (oobV x y v0 ov of rv rf).1 (oobV x y v0 ov of rv rf).2) := by
  have f1 := wx.few
  have f2 := wy.few
  have hn := names12_ok x y (by omega) (by omega)
  have few := names12_len x y
  have hN := names12_of x y
  have hfr := fresh12_ok x y f1 f2 bx bY
  have cnt := g0.cnt
  have e1 : ∀ k (h : k < (names12 x y).length), (∀ j (h : j < (names12 x y).length), j < k → badN x y (names12 x y)[j] = false) → ((fieldO y (names12 x y)[k]).2 && !(fieldO x (names12 x y)[k]).2) = true → oobV x y v0 ov of rv rf = (wVal v0 (names12 x y)[k], true) := fun k h hj hk => by
    unfold oobV
    rw [find_at h (by unfold badN; rw [hk]; rfl) hj]
    dsimp only
    rw [if_pos hk]
  have e2 : ∀ k (h : k < (names12 x y).length), (∀ j (h : j < (names12 x y).length), j < k → badN x y (names12 x y)[j] = false) → ((fieldO y (names12 x y)[k]).2 && !(fieldO x (names12 x y)[k]).2) = false → ¬BelowP (fieldO x (names12 x y)[k]).1 (fieldO y (names12 x y)[k]).1 →
      oobV x y v0 ov of rv rf = (gVal (v0.keys ++ [(names12 x y)[k]]) (v0.items ++ [ov (names12 x y)[k]]), of (names12 x y)[k]) := fun k h hj hk hb => by
    unfold oobV
    rw [find_at h (by unfold badN; rw [tt_not.2 hb]; simp) hj]
    dsimp only
    rw [if_neg (by rw [hk]; simp)]
  have e3 : (∀ j (h : j < (names12 x y).length), badN x y (names12 x y)[j] = false) → oobV x y v0 ov of rv rf = (gVal (v0.keys ++ [repB xS 120 (maxL (names12 x y))]) (v0.items ++ [rv]), rf) := fun hj => by
    have : (names12 x y).find? (badN x y) = none := List.find?_eq_none.2 fun n hn => by
      obtain ⟨j, h, rfl⟩ := List.mem_iff_getElem.1 hn
      rw [hj j h]; simp
    unfold oobV
    rw [this]
  have bad : ∀ n, ((fieldO y n).2 && !(fieldO x n).2) = false → BelowP (fieldO x n).1 (fieldO y n).1 → badN x y n = false := fun n h1 h2 => by unfold badN; rw [h1, tt_iff.2 h2]; rfl
  have hu : ∀ n ∈ names12 x y, Utf n := fun n hn => ((hN.mem n).1 hn).elim (ux n) (uy n)
  generalize badN x y = bd at *
  generalize oobV x y v0 ov of rv rf = res at *
  generalize hL : names12 x y = l at *
  refine PCall.of_fx TTok mixed Tryz.func29 rfl (by decide) rfl rfl ?_
  conv => whnf
  refine hs.use (.refl _) ?_
  conv => whnf
  refine hn.use (.refl _) ?_
  conv => whnf
  refine ⟨SExec.loop_p l.length (fun k => ∀ j (h : j < l.length), j < k → bd l[j] = false) (fun k => ⟨104, [(8, vInt k), (7, vStrs l), (6, .bx 3 0), (4, .bx 2 0), (3, .bx 1 0), (2, .bx 0 0)], [.row 44 (cellsV (vOb x)), .row 44 (cellsV (vOb y)), .row 33 zVal, .row 33 (cellsV (vVal v0))]⟩) (fun j _ h => absurd h (Nat.not_lt_zero j)) (fun k => Nat.le_refl _)
    (St.subD_of rfl [] rfl rfl (.cons (.refl _) rfl (.cons (.refl _) rfl (.cons (.refl _) rfl (.cons (.refl _) rfl (.cons (.refl _) rfl (.cons (.refl _) rfl .nil))))))) ?_⟩
  intro k hk hI
  refine fx_sound TTok mixed ?_
  conv => whnf
  refine bsel_intro (fun hlt => ?_) (fun hlt => ?_)
  · have hlt : k < l.length := by simpa using hlt
    have hm := List.getElem_mem hlt
    have e1 := e1 k hlt hI
    have e2 := e2 k hlt hI
    have bad := bad l[k]
    have hb := hb l[k]
    have ho := ho l[k]
    have go := go l[k]
    have hu := hu _ hm
    clear e3 hr hfr
    conv => whnf
    refine ⟨SExec.region_fG TTok mixed 0 1 (by decide +kernel) rfl rfl ?_⟩
    conv => whnf
    refine idxStr hlt rfl ?_
    conv => whnf
    refine .inr (.inr ?_)
    conv => whnf
    refine (field12_ok x l[k] wx.fields wx.must).useP (.refl _) ?_
    conv => whnf
    refine ⟨SExec.region_fG TTok mixed 0 1 (by decide +kernel) rfl rfl ?_⟩
    conv => whnf
    refine idxStr hlt rfl ?_
    conv => whnf
    refine .inr (.inr ?_)
    conv => whnf
    refine (field12_ok y l[k] wy.fields wy.must).useP (.refl _) ?_
    conv => whnf
    refine bsel_intro (fun a1 => ?_) (fun a1 => ?_)
    · have a1 : (fieldO y l[k]).2 = true := by simpa using a1
      conv => whnf
      refine bsel_intro (fun a2 => ?_) (fun a2 => ?_)
      · have a2 : (fieldO x l[k]).2 = false := by simpa using a2
        rw [e1 (by rw [a1, a2]; rfl)]
        conv => whnf
        refine ⟨SExec.region_fG TTok mixed 0 0 (by decide +kernel) rfl rfl ?_⟩
        conv => whnf
        refine idxStr hlt rfl ?_
        conv => whnf
        refine .inr (.inr ?_)
        conv => whnf
        refine (without03_ok v0 l[k] g0.ok g0.kind).useP (.refl _) ?_
        conv => whnf
        exact retP TTok rfl (.of_eq rfl) rfl
      · have a2 : (fieldO x l[k]).2 = true := by simpa using a2
        have nw : ((fieldO y l[k]).2 && !(fieldO x l[k]).2) = false := by rw [a2]; simp
        conv => whnf
        refine hb.out.use (.refl _) ?_
        conv => whnf
        refine bsel_intro (fun b1 => ?_) (fun b1 => ?_)
        · have b1 : ¬BelowP (fieldO x l[k]).1 (fieldO y l[k]).1 := tt_not.1 (by simpa only [Bool.not_eq_true'] using b1)
          rw [e2 nw b1]
          conv => whnf
          refine ho.use (.refl _) ?_
          conv => whnf
          refine ⟨SExec.region_fG TTok mixed 0 0 (by decide +kernel) rfl rfl ?_⟩
          conv => whnf
          refine idxStr hlt rfl ?_
          conv => whnf
          refine .inr (.inr ?_)
          conv => whnf
          refine (with03_ok v0 (ov l[k]) l[k] g0.ok g0.kind hu go (by omega)).useP (.refl _) ?_
          conv => whnf
          exact retP TTok rfl (.of_eq rfl) rfl
        · have b1 : BelowP (fieldO x l[k]).1 (fieldO y l[k]).1 := tt_iff.1 (by simpa only [Bool.not_eq_false'] using b1)
          have bad := bad nw b1
          conv => whnf
          exact ⟨⟨hlt, fun j hj hjk => by
            by_cases e : j = k
            · subst e; exact bad
            · exact hI j hj (by omega)⟩, St.subD_of rfl _ rfl rfl (.cons (.of_eq (vInt_succ k (by omega))) rfl (.cons (.refl _) rfl (.cons (.refl _) rfl (.cons (.refl _) rfl (.cons (.refl _) rfl (.cons (.refl _) rfl .nil))))))⟩
    · have a1 : (fieldO y l[k]).2 = false := by simpa using a1
      have nw : ((fieldO y l[k]).2 && !(fieldO x l[k]).2) = false := by rw [a1]; rfl
      conv => whnf
      refine hb.out.use (.refl _) ?_
      conv => whnf
      refine bsel_intro (fun b1 => ?_) (fun b1 => ?_)
      · have b1 : ¬BelowP (fieldO x l[k]).1 (fieldO y l[k]).1 := tt_not.1 (by simpa only [Bool.not_eq_true'] using b1)
        rw [e2 nw b1]
        conv => whnf
        refine ho.use (.refl _) ?_
        conv => whnf
        refine ⟨SExec.region_fG TTok mixed 0 0 (by decide +kernel) rfl rfl ?_⟩
        conv => whnf
        refine idxStr hlt rfl ?_
        conv => whnf
        refine .inr (.inr ?_)
        conv => whnf
        refine (with03_ok v0 (ov l[k]) l[k] g0.ok g0.kind hu go (by omega)).useP (.refl _) ?_
        conv => whnf
        exact retP TTok rfl (.of_eq rfl) rfl
      · have b1 : BelowP (fieldO x l[k]).1 (fieldO y l[k]).1 := tt_iff.1 (by simpa only [Bool.not_eq_false'] using b1)
        have bad := bad nw b1
        conv => whnf
        exact ⟨⟨hlt, fun j hj hjk => by
          by_cases e : j = k
          · subst e; exact bad
          · exact hI j hj (by omega)⟩, St.subD_of rfl _ rfl rfl (.cons (.of_eq (vInt_succ k (by omega))) rfl (.cons (.refl _) rfl (.cons (.refl _) rfl (.cons (.refl _) rfl (.cons (.refl _) rfl (.cons (.refl _) rfl .nil))))))⟩
  · have hge : l.length ≤ k := by simpa using hlt
    rw [e3 fun j h => hI j h (by omega)]
    conv => whnf
    refine hr.use (.refl _) ?_
    conv => whnf
    refine hfr.use (.refl _) ?_
    conv => whnf
    refine (with03_ok v0 rv _ g0.ok g0.kind (long_utf (maxL l)) gr (by omega)).use (.refl _) ?_
    conv => whnf
    exact retP TTok rfl (.of_eq rfl) rfl
end Go.Ab
