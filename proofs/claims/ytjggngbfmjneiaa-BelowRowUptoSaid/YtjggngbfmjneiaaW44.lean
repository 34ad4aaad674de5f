import Derived.Test.YtjggngbfmjneiaaW43
import Derived.Test.YtjggngbfmjneiaaPZ
set_option linter.unusedVariables false
set_option linter.unusedSimpArgs false
set_option maxRecDepth 4000
namespace Go.Ab
open Go.Proofs

/-- A test that is a closure, over the caller's own things. -/
theorem indexFuncO_ok (f : FuncId) (c0 : V) (cs : List V) (H : List O) (hH : hpLt H.length H = true) (hcap : lts H.length (c0 :: cs) = true) (p : Ob → Bool) (l : List Ob) (hl : l.length ≤ 140737488355328)
    (hc : ∀ s ∈ l, HCall Try.prog f (vOb s :: c0 :: cs) H (vBool (p s))) : HCall Try.prog 100 [vObs l, .fn (.func f) [] (c0 :: cs)] H (vInt (idxP p l)) := by
  refine HCall.of_fx TTok mixed Try.func100 rfl (by decide) rfl ?_
  have hf : (V.fn (.func f) [] (c0 :: cs)).lt H.length = true := by (simp only [V.lt, Bool.and_eq_true]; exact ⟨rfl, hcap⟩)
  conv => whnf
  refine ⟨SExec.loop_p l.length (fun k => ∀ j (h : j < l.length), j < k → p l[j] = false) (fun k => ⟨19, [(8, vInt k), (7, vInt l.length), (6, vObs l), (1, .fn (.func f) [] (c0 :: cs)), (0, vObs l)], H⟩) (fun j _ h => absurd h (Nat.not_lt_zero _))
    (fun k => Nat.le_refl _) (St.subD_of rfl [] (List.append_nil _).symm hH (.cons (.refl _) rfl (.cons (.of_eq (vInt_len ..)) rfl (.cons (.refl _) rfl (.cons (.refl _) hf (.cons (.refl _) rfl .nil)))))) ?_⟩
  intro k hk hI
  refine fx_sound TTok mixed ?_
  conv => whnf
  refine bsel_intro (fun hlt => ?_) (fun hlt => ?_)
  · have hlt : k < l.length := by simpa using hlt
    conv => whnf
    refine idxOb hlt rfl ?_
    conv => whnf
    refine (hc _ (List.getElem_mem hlt)).use (.refl _) ?_
    conv => whnf
    refine bsel_intro (fun h1 => ?_) (fun h1 => ?_)
    · have h1 : p l[k] = true := by simpa using h1
      conv => whnf
      exact retH (extra := []) TTok rfl (List.append_nil _).symm hH (.of_eq (by rw [idxP_at hlt hI h1]; rfl)) rfl
    · have h1 : p l[k] = false := by simpa using h1
      conv => whnf
      refine ⟨⟨hlt, fun j h hj => ?_⟩, St.subD_of rfl [] (List.append_nil _).symm hH (.cons (.of_eq (vInt_succ k (by omega))) rfl (.cons (.refl _) rfl (.cons (.refl _) rfl (.cons (.refl _) hf (.cons (.refl _) rfl .nil)))))⟩
      by_cases e : j = k
      · subst e; exact h1
      · exact hI j h (by omega)
  · have hge : l.length ≤ k := by simpa using hlt
    conv => whnf
    exact retH (extra := []) TTok rfl (List.append_nil _).symm hH (.of_eq (by rw [idxP_none fun j h => hI j h (by omega)]; rfl)) rfl
theorem containsFuncO_ok (f : FuncId) (c0 : V) (cs : List V) (H : List O) (hH : hpLt H.length H = true) (hcap : lts H.length (c0 :: cs) = true) (p : Ob → Bool) (l : List Ob) (hl : l.length ≤ 140737488355328)
    (hc : ∀ s ∈ l, HCall Try.prog f (vOb s :: c0 :: cs) H (vBool (p s))) : HCall Try.prog 81 [vObs l, .fn (.func f) [] (c0 :: cs)] H (vBool (l.any p)) := by
  refine HCall.of_fx TTok mixed Try.func81 rfl (by decide) rfl ?_
  conv => whnf
  refine (indexFuncO_ok f c0 cs H hH hcap p l hl hc).use (.refl _) ?_
  conv => whnf
  exact retH (extra := []) TTok rfl (List.append_nil _).symm hH (.of_eq (by rw [← idxP_ge]; rfl)) rfl

/-- What is asked of below.names: its own text is shown elsewhere. -/
def NamesC : Prop := ∀ a b : Ob, a.names.length ≤ 2000 → b.names.length ≤ 2000 → ∃ l : List ByteArray, l.length ≤ 4000 ∧ PCall Try.prog 101 [vOb a, vOb b] (vStrs l) ∧ ∀ n, n ∈ l ↔ Names2 a b n

set_option maxHeartbeats 2000000 in
theorem lies_ok (hN : NamesC) (x y : Ob) (wx : ObW x) (wy : ObW y) (hc : ∀ n, PCall Try.prog 18 [vTy (fieldO x n).1, vTy (fieldO y n).1] (vBool (tt (BelowP (fieldO x n).1 (fieldO y n).1)))) (hr : PCall Try.prog 18 [vTy x.rest, vTy y.rest] (vBool (tt (BelowP x.rest y.rest)))) :
    PCall Try.prog 83 [vOb x, vOb y] (vBool (tt (LiesP x y))) := by
  obtain ⟨l, hl, hn, hmem⟩ := hN x y wx.few wy.few
  refine PCall.of_fx TTok mixed Try.func83 rfl (by decide) rfl rfl ?_
  conv => whnf
  refine hn.use (.refl _) ?_
  conv => whnf
  refine ⟨SExec.loop_p l.length (fun k => ∀ j (h : j < l.length), j < k → ((fieldO y l[j]).2 = true → (fieldO x l[j]).2 = true) ∧ BelowP (fieldO x l[j]).1 (fieldO y l[j]).1) (fun k => ⟨48, [(15, vInt k), (14, vInt l.length), (13, vStrs l), (3, .bx 1 0), (2, .bx 0 0)], [.row 32 (cellsV (vOb x)), .row 32 (cellsV (vOb y))]⟩) (fun j _ h => absurd h (Nat.not_lt_zero _))
    (fun k => Nat.le_refl _) (St.subD_of rfl [] rfl rfl (.cons (.refl _) rfl (.cons (.of_eq (vInt_len ..)) rfl (.cons (.refl _) rfl (.cons (.refl _) rfl (.cons (.refl _) rfl .nil)))))) ?_⟩
  intro k hk hI
  refine fx_sound TTok mixed ?_
  conv => whnf
  refine bsel_intro (fun hlt => ?_) (fun hlt => ?_)
  · have hlt : k < l.length := by simpa using hlt
    have hnm := (hmem l[k]).1 (List.getElem_mem hlt)
    conv => whnf
    refine idxStr hlt rfl ?_
    conv => whnf
    refine (field_ok x l[k] wx.sorted wx.fields wx.must).use (.refl _) ?_
    conv => whnf
    refine (field_ok y l[k] wy.sorted wy.fields wy.must).use (.refl _) ?_
    conv => whnf
    cases hy2 : (fieldO y l[k]).2 <;> cases hx2 : (fieldO x l[k]).2
    · conv => whnf
      refine (hc l[k]).use (.refl _) ?_
      conv => whnf
      refine bsel_intro (fun hb => ?_) (fun hb => ?_)
      · have hb : ¬BelowP (fieldO x l[k]).1 (fieldO y l[k]).1 := tt_not.1 (by simpa using hb)
        conv => whnf
        exact retB TTok rfl (tt_f fun h => hb (h.field _ hnm))
      · have hb : BelowP (fieldO x l[k]).1 (fieldO y l[k]).1 := tt_iff.1 (by simpa using hb)
        conv => whnf
        refine ⟨⟨hlt, fun j h hj => ?_⟩, St.subD_of rfl _ rfl rfl (.cons (.of_eq (vInt_succ k (by omega))) rfl (.cons (.refl _) rfl (.cons (.refl _) rfl (.cons (.refl _) rfl (.cons (.refl _) rfl .nil)))))⟩
        by_cases e : j = k
        · subst e; exact ⟨fun h => by simp_all, hb⟩
        · exact hI j h (by omega)
    · conv => whnf
      refine (hc l[k]).use (.refl _) ?_
      conv => whnf
      refine bsel_intro (fun hb => ?_) (fun hb => ?_)
      · have hb : ¬BelowP (fieldO x l[k]).1 (fieldO y l[k]).1 := tt_not.1 (by simpa using hb)
        conv => whnf
        exact retB TTok rfl (tt_f fun h => hb (h.field _ hnm))
      · have hb : BelowP (fieldO x l[k]).1 (fieldO y l[k]).1 := tt_iff.1 (by simpa using hb)
        conv => whnf
        refine ⟨⟨hlt, fun j h hj => ?_⟩, St.subD_of rfl _ rfl rfl (.cons (.of_eq (vInt_succ k (by omega))) rfl (.cons (.refl _) rfl (.cons (.refl _) rfl (.cons (.refl _) rfl (.cons (.refl _) rfl .nil)))))⟩
        by_cases e : j = k
        · subst e; exact ⟨fun h => by simp_all, hb⟩
        · exact hI j h (by omega)
    · conv => whnf
      exact retB TTok rfl (tt_f fun h => by have := h.must _ hnm hy2; rw [hx2] at this; cases this)
    · conv => whnf
      refine (hc l[k]).use (.refl _) ?_
      conv => whnf
      refine bsel_intro (fun hb => ?_) (fun hb => ?_)
      · have hb : ¬BelowP (fieldO x l[k]).1 (fieldO y l[k]).1 := tt_not.1 (by simpa using hb)
        conv => whnf
        exact retB TTok rfl (tt_f fun h => hb (h.field _ hnm))
      · have hb : BelowP (fieldO x l[k]).1 (fieldO y l[k]).1 := tt_iff.1 (by simpa using hb)
        conv => whnf
        refine ⟨⟨hlt, fun j h hj => ?_⟩, St.subD_of rfl _ rfl rfl (.cons (.of_eq (vInt_succ k (by omega))) rfl (.cons (.refl _) rfl (.cons (.refl _) rfl (.cons (.refl _) rfl (.cons (.refl _) rfl .nil)))))⟩
        by_cases e : j = k
        · subst e; exact ⟨fun h => by simp_all, hb⟩
        · exact hI j h (by omega)
  · have hge : l.length ≤ k := by simpa using hlt
    conv => whnf
    refine hr.use (.refl _) ?_
    conv => whnf
    have hall : ∀ n, Names2 x y n → ((fieldO y n).2 = true → (fieldO x n).2 = true) ∧ BelowP (fieldO x n).1 (fieldO y n).1 := fun n h => by
      obtain ⟨j, hj, rfl⟩ := List.mem_iff_getElem.1 ((hmem n).2 h)
      exact hI j hj (by omega)
    exact retB TTok rfl (tt_congr ⟨fun h => ⟨fun n hn => (hall n hn).1, fun n hn => (hall n hn).2, h⟩, fun h => h.rest⟩)
end Go.Ab
