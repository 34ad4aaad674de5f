import Derived.Test.YtjggngbfmjneiaaGreatW23
import Derived.Test.YtjggngbfmjneiaaGreatPG
set_option linter.unusedVariables false
set_option linter.unusedSimpArgs false
set_option maxRecDepth 4000
namespace Go.Ab
open Go.Proofs

theorem has_ok (l : List ByteArray) (s : ByteArray) : PCall Tryz.prog 61 [vStrs l, vStr s] (vBool (tt (s ∈ l))) := by
  refine PCall.bd Tryz.func61 rfl (by decide) rfl rfl (fun hbd => ?_)
  have hl : l.length ≤ 140737488355328 := bd_map (hbd 0 (by simp))
  refine PCall.of_fx TTok mixed Tryz.func61 rfl (by decide) rfl rfl ?_
  conv => whnf
  refine ⟨SExec.loop_p l.length (fun k => ∀ j (h : j < l.length), j < k → l[j] ≠ s) (fun k => ⟨18, [(5, vInt k), (1, vStr s), (0, vStrs l)], []⟩) (fun j _ h => absurd h (Nat.not_lt_zero _))
    (fun k => Nat.le_refl _) (St.subD_of rfl [] rfl rfl (.cons (.refl _) rfl (.cons (.refl _) rfl (.cons (.refl _) rfl .nil)))) ?_⟩
  intro k hk hI
  refine fx_sound TTok mixed ?_
  conv => whnf
  refine bsel_intro (fun hlt => ?_) (fun hlt => ?_)
  · have hlt : k < l.length := by simpa using hlt
    conv => whnf
    refine idxStr hlt rfl ?_
    conv => whnf
    refine bsel_intro (fun h1 => ?_) (fun h1 => ?_)
    · have h1 : l[k] = s := strEq_iff.1 (by simpa using h1)
      conv => whnf
      exact retB TTok rfl (tt_t (by subst h1; exact List.getElem_mem hlt))
    · have h1 : l[k] ≠ s := strEq_not.1 (by simpa using h1)
      conv => whnf
      refine ⟨⟨hlt, fun j h hj => ?_⟩, St.subD_of rfl _ rfl rfl (.cons (.of_eq (vInt_succ k (by omega))) rfl (.cons (.refl _) rfl (.cons (.refl _) rfl .nil)))⟩
      by_cases e : j = k
      · subst e; exact h1
      · exact hI j h (by omega)
  · have hge : l.length ≤ k := by simpa using hlt
    conv => whnf
    refine retB TTok rfl (tt_f fun hx => ?_)
    obtain ⟨j, hj, e⟩ := List.mem_iff_getElem.1 hx
    exact hI j hj (by omega) e

theorem inSpan_ok (n : ByteArray) (s : Sp) (hn : NumOk n) (hs : SpOk s) : PCall Tryz.prog 41 [vStr n, vSp s] (vBool (tt (InSp n s))) := by
  refine PCall.of_fx TTok mixed Tryz.func41 rfl (by decide) rfl rfl ?_
  have hi : (s.high ≠ ⟨#[]⟩ → numCmp n s.high ≤ 0) ↔ (s.high = ⟨#[]⟩ ∨ numCmp n s.high ≤ 0) := ⟨fun h => (Classical.em _).imp_right h, fun h k => h.resolve_left k⟩
  have fin : (s.low ≠ ⟨#[]⟩ → 0 ≤ numCmp n s.low) → ∀ b, (b = true ↔ (s.high = ⟨#[]⟩ ∨ numCmp n s.high ≤ 0)) → b = tt (InSp n s) := fun hl b hb => tt_eq (hb.trans ⟨fun h => ⟨hl, hi.2 h⟩, fun h => hi.1 h.high⟩)
  conv => whnf
  refine bsel_intro (fun h1 => ?_) (fun h1 => ?_)
  · have h1 : s.low ≠ ⟨#[]⟩ := strEq_not.1 (by simpa using h1)
    conv => whnf
    refine (numbers_ok n s.low hn (hs.1.resolve_left h1)).use (.refl _) ?_
    conv => whnf
    refine bsel_intro (fun h2 => ?_) (fun h2 => ?_)
    · have h2 : numCmp n s.low < 0 := by simpa using h2
      conv => whnf
      exact retB TTok rfl (tt_f fun h => by have := h.low h1; omega)
    have h2 : 0 ≤ numCmp n s.low := by have := of_decide_eq_false h2; omega
    conv => whnf
    refine bsel_intro (fun h3 => ?_) (fun h3 => ?_)
    · have h3 : s.high ≠ ⟨#[]⟩ := strEq_not.1 (by simpa using h3)
      conv => whnf
      refine (numbers_ok n s.high hn (hs.2.resolve_left h3)).use (.refl _) ?_
      conv => whnf
      exact retB TTok rfl (fin (fun _ => h2) _ (by simp [h3]))
    · have h3 : s.high = ⟨#[]⟩ := strEq_iff.1 (by simpa using h3)
      conv => whnf
      exact retB TTok rfl (fin (fun _ => h2) _ (by simp [h3, strEq]))
  · have h1 : s.low = ⟨#[]⟩ := strEq_iff.1 (by simpa using h1)
    conv => whnf
    refine bsel_intro (fun h3 => ?_) (fun h3 => ?_)
    · have h3 : s.high ≠ ⟨#[]⟩ := strEq_not.1 (by simpa using h3)
      conv => whnf
      refine (numbers_ok n s.high hn (hs.2.resolve_left h3)).use (.refl _) ?_
      conv => whnf
      exact retB TTok rfl (fin (fun k => absurd h1 k) _ (by simp [h3]))
    · have h3 : s.high = ⟨#[]⟩ := strEq_iff.1 (by simpa using h3)
      conv => whnf
      exact retB TTok rfl (fin (fun k => absurd h1 k) _ (by simp [h3, strEq]))

def valNil : Val := .mk 0 ⟨#[]⟩ ⟨#[]⟩ [] []
def getR : Option Val → V
  | some x => .tup [vVal x, vBool true]
  | none => .tup [vVal valNil, vBool false]
theorem entNil : EntV (.agg [.d (.lit (.int .i64 0)), .d (.lit (.string ⟨#[]⟩)), .d (.lit (.string ⟨#[]⟩)), .d (.lit (.slice none 0 0)), .d (.lit (.slice none 0 0))]) (vVal valNil) :=
  .agg (.cons (.refl _) (.cons (.refl _) (.cons (.refl _) (.cons .nil_sl (.cons .nil_sl .nil)))))
theorem get_ok (v : Val) (n : ByteArray) (hk : v.kind = 6) (hl : v.keys.length = v.items.length) : PCall Tryz.prog 81 [vVal v, vStr n] (getR (v.get n)) := by
  refine PCall.bd Tryz.func81 rfl (by decide) (by cases v.get n <;> rfl) rfl (fun hbd => ?_)
  have hb : v.keys.length ≤ 140737488355328 := (deepV_of (hbd 0 (by simp))).bd.keys
  refine PCall.of_fx TTok mixed Tryz.func81 rfl (by decide) (by cases v.get n <;> rfl) rfl ?_
  conv => whnf
  refine bsel_false (by simp [hk]) ?_
  conv => whnf
  refine ⟨SExec.loop_p v.keys.length (fun k => getL (v.keys.drop k) (v.items.drop k) n = v.get n) (fun k => ⟨37, [(6, vInt k), (4, .bx 1 0), (2, .bx 0 0), (1, vStr n)], [.row 33 (cellsV (vVal v)), .row 33 (cellsV (.agg [.d (.lit (.int .i64 0)), .d (.lit (.string ⟨#[]⟩)), .d (.lit (.string ⟨#[]⟩)), .d (.lit (.slice none 0 0)), .d (.lit (.slice none 0 0))]))]⟩) (by simp [Val.get])
    (fun k => Nat.le_refl _) (St.subD_of rfl [] rfl rfl (.cons (.refl _) rfl (.cons (.refl _) rfl (.cons (.refl _) rfl (.cons (.refl _) rfl .nil))))) ?_⟩
  intro k hk hI
  refine fx_sound TTok mixed ?_
  conv => whnf
  refine bsel_intro (fun hlt => ?_) (fun hlt => ?_)
  · have hlt : k < v.keys.length := by simpa using hlt
    have hlt' : k < v.items.length := by omega
    rw [getL_drop hlt hlt'] at hI
    conv => whnf
    refine idxStr hlt rfl ?_
    conv => whnf
    refine bsel_intro (fun h1 => ?_) (fun h1 => ?_)
    · have h1 : v.keys[k] = n := strEq_iff.1 (by simpa using h1)
      rw [if_pos h1] at hI
      conv => whnf
      refine bsel_false (by simp; omega) ?_
      conv => whnf
      refine idxVal hlt' rfl ?_
      conv => whnf
      rw [← hI]
      exact retP TTok rfl (.refl _) rfl
    · have h1 : v.keys[k] ≠ n := strEq_not.1 (by simpa using h1)
      rw [if_neg h1] at hI
      conv => whnf
      exact ⟨⟨hlt, hI⟩, St.subD_of rfl _ rfl rfl (.cons (.of_eq (vInt_succ k (by omega))) rfl (.cons (.refl _) rfl (.cons (.refl _) rfl (.cons (.refl _) rfl .nil))))⟩
  · have hge : v.keys.length ≤ k := by simpa using hlt
    rw [getL_end hge] at hI
    conv => whnf
    rw [← hI]
    exact retP TTok rfl (.tup (.cons entNil (.cons (.refl _) .nil))) rfl

theorem inArr_ok (l : List Val) (a : Ar) (hc : ∀ x ∈ l, PCall Tryz.prog 13 [vVal x, vTy a.item] (vBool (tt (InT a.item x)))) : PCall Tryz.prog 42 [vVals l, vAr a] (vBool (tt (InAr l a))) := by
  refine PCall.bd Tryz.func42 rfl (by decide) rfl rfl (fun hbd => ?_)
  have hl : l.length ≤ 140737488355328 := bd_map (hbd 0 (by simp))
  refine PCall.of_fx TTok mixed Tryz.func42 rfl (by decide) rfl rfl ?_
  conv => whnf
  refine bsel_intro (fun h1 => ?_) (fun h1 => ?_)
  case' refine_2 =>
    have h1 : (l.length : Int) < a.min := by simpa using h1
    conv => whnf
    exact retB TTok rfl (tt_f fun h => by have := h.min; omega)
  have hmin : a.min ≤ (l.length : Int) := by simpa using h1
  conv => whnf
  refine bsel_intro (fun h2 => ?_) (fun h2 => ?_)
  · have h2 : 0 ≤ a.max := by simpa using h2
    conv => whnf
    refine bsel_intro (fun h3 => ?_) (fun h3 => ?_)
    · have h3 : a.max < (l.length : Int) := by simpa using h3
      conv => whnf
      exact retB TTok rfl (tt_f fun h => by have := h.max h2; omega)
    have h3 : (l.length : Int) ≤ a.max := by simpa using h3
    have hmax : 0 ≤ a.max → (l.length : Int) ≤ a.max := fun _ => h3
    conv => whnf
    refine ⟨SExec.loop_p l.length (fun k => ∀ j (h : j < l.length), j < k → InT a.item l[j]) (fun k => ⟨37, [(5, vInt k), (3, .bx 0 0), (0, vVals l)], [.row 40 (cellsV (vAr a))]⟩) (fun j _ h => absurd h (Nat.not_lt_zero _))
      (fun k => Nat.le_refl _) (St.subD_of rfl [] rfl rfl (.cons (.refl _) rfl (.cons (.refl _) rfl (.cons (.refl _) rfl .nil)))) ?_⟩
    intro k hk hI
    refine fx_sound TTok mixed ?_
    conv => whnf
    refine bsel_intro (fun hlt => ?_) (fun hlt => ?_)
    · have hlt : k < l.length := by simpa using hlt
      conv => whnf
      (refine ⟨by decide +kernel, ?_⟩; conv => whnf)
      refine idxVal hlt rfl ?_
      conv => whnf
      refine (hc _ (List.getElem_mem hlt)).useQ (.refl _) ?_
      conv => whnf
      refine bsel_intro (fun h1 => ?_) (fun h1 => ?_)
      · have h1 := tt_not.1 (by simpa using h1)
        conv => whnf
        exact retB TTok rfl (tt_f fun h => h1 (h.item _ (List.getElem_mem hlt)))
      · have h1 := tt_iff.1 (by simpa using h1)
        conv => whnf
        refine ⟨⟨hlt, fun j h hj => ?_⟩, St.subD_of rfl _ rfl rfl (.cons (.of_eq (vInt_succ k (by omega))) rfl (.cons (.refl _) rfl (.cons (.refl _) rfl .nil)))⟩
        by_cases e : j = k
        · subst e; exact h1
        · exact hI j h (by omega)
    · have hge : l.length ≤ k := by simpa using hlt
      conv => whnf
      refine retB TTok rfl (tt_t ⟨hmin, hmax, fun x hx => ?_⟩)
      obtain ⟨j, hj, rfl⟩ := List.mem_iff_getElem.1 hx
      exact hI j hj (by omega)
  · have h2 : a.max < 0 := by simpa using h2
    have hmax : 0 ≤ a.max → (l.length : Int) ≤ a.max := fun _ => by omega
    conv => whnf
    refine ⟨SExec.loop_p l.length (fun k => ∀ j (h : j < l.length), j < k → InT a.item l[j]) (fun k => ⟨37, [(5, vInt k), (3, .bx 0 0), (0, vVals l)], [.row 40 (cellsV (vAr a))]⟩) (fun j _ h => absurd h (Nat.not_lt_zero _))
      (fun k => Nat.le_refl _) (St.subD_of rfl [] rfl rfl (.cons (.refl _) rfl (.cons (.refl _) rfl (.cons (.refl _) rfl .nil)))) ?_⟩
    intro k hk hI
    refine fx_sound TTok mixed ?_
    conv => whnf
    refine bsel_intro (fun hlt => ?_) (fun hlt => ?_)
    · have hlt : k < l.length := by simpa using hlt
      conv => whnf
      (refine ⟨by decide +kernel, ?_⟩; conv => whnf)
      refine idxVal hlt rfl ?_
      conv => whnf
      refine (hc _ (List.getElem_mem hlt)).useQ (.refl _) ?_
      conv => whnf
      refine bsel_intro (fun h1 => ?_) (fun h1 => ?_)
      · have h1 := tt_not.1 (by simpa using h1)
        conv => whnf
        exact retB TTok rfl (tt_f fun h => h1 (h.item _ (List.getElem_mem hlt)))
      · have h1 := tt_iff.1 (by simpa using h1)
        conv => whnf
        refine ⟨⟨hlt, fun j h hj => ?_⟩, St.subD_of rfl _ rfl rfl (.cons (.of_eq (vInt_succ k (by omega))) rfl (.cons (.refl _) rfl (.cons (.refl _) rfl .nil)))⟩
        by_cases e : j = k
        · subst e; exact h1
        · exact hI j h (by omega)
    · have hge : l.length ≤ k := by simpa using hlt
      conv => whnf
      refine retB TTok rfl (tt_t ⟨hmin, hmax, fun x hx => ?_⟩)
      obtain ⟨j, hj, rfl⟩ := List.mem_iff_getElem.1 hx
      exact hI j hj (by omega)

theorem inOb_ok (v : Val) (o : Ob) (hk : v.kind = 6) (hl : v.keys.length = v.items.length) (h1 : o.names.length = o.fields.length) (h2 : o.names.length = o.must.length)
    (hf : ∀ f ∈ o.fields, ∀ x ∈ v.items, PCall Tryz.prog 13 [vVal x, vTy f] (vBool (tt (InT f x)))) (hr : ∀ x ∈ v.items, PCall Tryz.prog 13 [vVal x, vTy o.rest] (vBool (tt (InT o.rest x)))) : PCall Tryz.prog 43 [vVal v, vOb o] (vBool (tt (InOb v o))) := by
  refine PCall.bd Tryz.func43 rfl (by decide) rfl rfl (fun hbd => ?_)
  have hb : v.keys.length ≤ 140737488355328 := (deepV_of (hbd 0 (by simp))).bd.keys
  have hb2 : o.names.length ≤ 140737488355328 := (vob_bd (hbd 1 (by simp))).names
  refine PCall.of_fx TTok mixed Tryz.func43 rfl (by decide) rfl rfl ?_
  conv => whnf
  refine ⟨SExec.loop_p o.names.length (fun k => ∀ i (h : i < o.names.length) (h' : i < o.fields.length) (h'' : i < o.must.length), i < k → (∀ x, v.get o.names[i] = some x → InT o.fields[i] x) ∧ (v.get o.names[i] = none → o.must[i] = false)) (fun k => ⟨75, [(5, vInt k), (3, .bx 1 0), (2, .bx 0 0)], [.row 33 (cellsV (vVal v)), .row 44 (cellsV (vOb o))]⟩) (fun j _ _ _ h => absurd h (Nat.not_lt_zero _))
    (fun k => Nat.le_refl _) (St.subD_of rfl [] rfl rfl (.cons (.refl _) rfl (.cons (.refl _) rfl (.cons (.refl _) rfl .nil)))) ?_⟩
  intro k hk0 hI
  refine fx_sound TTok mixed ?_
  conv => whnf
  refine bsel_intro (fun hlt => ?_) (fun hlt => ?_)
  · have hlt : k < o.names.length := by simpa using hlt
    have hltf : k < o.fields.length := by omega
    have hltm : k < o.must.length := by omega
    conv => whnf
    refine ⟨SExec.region_fE TTok mixed 2 (by decide +kernel) rfl rfl ?_⟩
    conv => whnf
    refine idxStr hlt rfl ?_
    conv => whnf
    refine (get_ok v o.names[k] hk hl).useQ (.refl _) ?_
    cases hg : v.get o.names[k] with
    | some x =>
      conv => whnf
      (refine ⟨by decide +kernel, ?_⟩; conv => whnf)
      refine idxTy hltf rfl ?_
      conv => whnf
      refine (hf _ (List.getElem_mem hltf) _ (getL_mem hg)).useQ (.refl _) ?_
      conv => whnf
      refine bsel_intro (fun h3 => ?_) (fun h3 => ?_)
      case' refine_2 =>
        have h3 := tt_not.1 (by simpa using h3)
        conv => whnf
        exact retB TTok rfl (tt_f fun h => h3 (h.f k hlt hltf x hg))
      have h3 : InT o.fields[k] x := tt_iff.1 (by simpa using h3)
      conv => whnf
      refine ⟨⟨hlt, fun j h h' h'' hj => ?_⟩, St.subD_of rfl _ rfl rfl (.cons (.of_eq (vInt_succ k (by omega))) rfl (.cons (.refl _) rfl (.cons (.refl _) rfl .nil)))⟩
      by_cases e : j = k
      · subst e; exact ⟨fun y hy => by rw [hg] at hy; cases hy; exact h3, fun hy => by rw [hg] at hy; cases hy⟩
      · exact hI j h h' h'' (by omega)
    | none =>
      conv => whnf
      (refine ⟨by decide +kernel, ?_⟩; conv => whnf)
      refine idxBool hltm rfl ?_
      conv => whnf
      refine bsel_intro (fun h3 => ?_) (fun h3 => ?_)
      · have h3 : o.must[k] = true := by simpa using h3
        conv => whnf
        exact retB TTok rfl (tt_f fun h => by have := h.m k hlt hltm hg; simp_all)
      have h3 : o.must[k] = false := by simpa using h3
      conv => whnf
      refine ⟨⟨hlt, fun j h h' h'' hj => ?_⟩, St.subD_of rfl _ rfl rfl (.cons (.of_eq (vInt_succ k (by omega))) rfl (.cons (.refl _) rfl (.cons (.refl _) rfl .nil)))⟩
      by_cases e : j = k
      · subst e; exact ⟨fun y hy => (by rw [hg] at hy; cases hy), fun _ => h3⟩
      · exact hI j h h' h'' (by omega)
  have hge : o.names.length ≤ k := by simpa using hlt
  conv => whnf
  refine ⟨SExec.loop_p v.keys.length (fun k => ∀ i (h : i < v.keys.length) (h' : i < v.items.length), i < k → v.keys[i] ∉ o.names → InT o.rest v.items[i]) (fun k => ⟨75, [(8, vInt k), (3, .bx 1 0), (2, .bx 0 0)], [.row 33 (cellsV (vVal v)), .row 44 (cellsV (vOb o))]⟩) (fun j _ _ h => absurd h (Nat.not_lt_zero _))
    (fun k => Nat.le_refl _) (St.subD_of rfl [] rfl rfl (.cons (.refl _) rfl (.cons (.refl _) rfl (.cons (.refl _) rfl .nil)))) ?_⟩
  intro k2 hk2 hJ
  refine fx_sound TTok mixed ?_
  conv => whnf
  refine bsel_intro (fun hlt => ?_) (fun hlt => ?_)
  · have hlt : k2 < v.keys.length := by simpa using hlt
    have hlti : k2 < v.items.length := by omega
    conv => whnf
    (refine ⟨by decide +kernel, ?_⟩; conv => whnf)
    refine idxStr hlt rfl ?_
    conv => whnf
    refine (has_ok o.names v.keys[k2]).useQ (.refl _) ?_
    conv => whnf
    refine bsel_intro (fun h3 => ?_) (fun h3 => ?_)
    · have h3 : v.keys[k2] ∉ o.names := tt_not.1 (by simpa using h3)
      conv => whnf
      refine idxVal hlti rfl ?_
      conv => whnf
      refine (hr _ (List.getElem_mem hlti)).useQ (.refl _) ?_
      conv => whnf
      refine bsel_intro (fun h4 => ?_) (fun h4 => ?_)
      · have h4 := tt_not.1 (by simpa using h4)
        conv => whnf
        exact retB TTok rfl (tt_f fun h => h4 (h.r k2 hlt hlti h3))
      have h4 : InT o.rest v.items[k2] := tt_iff.1 (by simpa using h4)
      conv => whnf
      refine ⟨⟨hlt, fun j h h' hj => ?_⟩, St.subD_of rfl _ rfl rfl (.cons (.of_eq (vInt_succ k2 (by omega))) rfl (.cons (.refl _) rfl (.cons (.refl _) rfl .nil)))⟩
      by_cases e : j = k2
      · subst e; exact fun _ => h4
      · exact hJ j h h' (by omega)
    · have h3 : v.keys[k2] ∈ o.names := tt_iff.1 (by simpa using h3)
      conv => whnf
      refine ⟨⟨hlt, fun j h h' hj => ?_⟩, St.subD_of rfl _ rfl rfl (.cons (.of_eq (vInt_succ k2 (by omega))) rfl (.cons (.refl _) rfl (.cons (.refl _) rfl .nil)))⟩
      by_cases e : j = k2
      · subst e; exact fun hn => absurd h3 hn
      · exact hJ j h h' (by omega)
  · have hge2 : v.keys.length ≤ k2 := by simpa using hlt
    conv => whnf
    exact retB TTok rfl (tt_t ⟨fun i h h' x hx => (hI i h h' (by omega) (by omega)).1 x hx, fun i h h' hx => (hI i h (by omega) h' (by omega)).2 hx, fun i h h' => hJ i h h' (by omega)⟩)

/-- What In needs of a type. -/
inductive InOk : Ty → Prop where
  | mk {t : Ty} (nums : ∀ s ∈ t.nums, SpOk s) (item : ∀ a ∈ t.arrays, InOk a.item) (len : ∀ o ∈ t.objects, o.names.length = o.fields.length ∧ o.names.length = o.must.length) (rest : ∀ o ∈ t.objects, InOk o.rest) (field : ∀ o ∈ t.objects, ∀ f ∈ o.fields, InOk f) : InOk t
theorem inOk_of : ∀ t : Ty, Formed t → InOk t := by
  intro t
  induction t using Ty.ind with
  | h t iha iho =>
  intro h
  cases h with
  | mk b tx an nu one arr item obj rest field =>
  exact .mk (fun s hs => ⟨(nu.ok s hs).low, (nu.ok s hs).high⟩) (fun a ha => iha a ha (item a ha)) (fun o ho => ⟨(obj o ho).fields, (obj o ho).must⟩) (fun o ho => (iho o ho).1 (rest o ho)) (fun o ho f hf => (iho o ho).2 f hf (field o ho f hf))

set_option maxHeartbeats 2000000 in
theorem in_ok : ∀ t : Ty, InOk t → ∀ v : Val, VOk v → PCall Tryz.prog 13 [vVal v, vTy t] (vBool (tt (InT t v))) := by
  intro t
  induction t using Ty.ind with
  | h t iha iho =>
  intro ht v hv
  cases ht with | mk hnu hit hln hre hfi =>
  refine PCall.bd Tryz.func13 rfl (by decide) rfl rfl (fun hbd => ?_)
  have hb := (deep_of (hbd 1 (by simp))).bd
  have hb1 := hb.texts
  have hb2 := hb.objects
  simp only [maxRows] at hb1 hb2
  have hv' := hv
  cases hv with | mk lo hi num num' text text' items keys len rise all =>
  refine PCall.of_fx TTok mixed Tryz.func13 rfl (by decide) rfl rfl ?_
  conv => whnf
  refine bsel_intro (fun ha => ?_) (fun ha => ?_)
  · have ha : t.all = true := by simpa using ha
    conv => whnf
    exact retB TTok rfl (tt_t (.all ha))
  have ha : t.all = false := by simpa using ha
  conv => whnf
  refine bsel_intro (fun k0 => ?_) (fun k0 => ?_)
  · have k0 : v.kind = 0 := by simpa using k0
    conv => whnf
    exact retB TTok rfl (tt_eq (inT_0 ha k0).symm)
  have k0 : v.kind ≠ 0 := by simpa using k0
  conv => whnf
  refine bsel_intro (fun k1 => ?_) (fun k1 => ?_)
  · have k1 : v.kind = 1 := by simpa using k1
    conv => whnf
    exact retB TTok rfl (tt_eq (inT_1 ha k1).symm)
  have k1 : v.kind ≠ 1 := by simpa using k1
  conv => whnf
  refine bsel_intro (fun k2 => ?_) (fun k2 => ?_)
  · have k2 : v.kind = 2 := by simpa using k2
    conv => whnf
    exact retB TTok rfl (tt_eq (inT_2 ha k2).symm)
  have k2 : v.kind ≠ 2 := by simpa using k2
  conv => whnf
  refine bsel_intro (fun k3 => ?_) (fun k3 => ?_)
  · have k3 : v.kind = 3 := by simpa using k3
    conv => whnf
    (refine ⟨by decide +kernel, ?_⟩; conv => whnf)
    refine bsel_intro (fun hn => ?_) (fun hn => ?_)
    · have hn : 0 < t.nums.length := by simp [ofNat_cast] at hn; omega
      conv => whnf
      refine idxSp (k := 0) hn rfl ?_
      conv => whnf
      refine (inSpan_ok v.num t.nums[0] (num k3) (hnu _ (List.getElem_mem hn))).useQ (.refl _) ?_
      conv => whnf
      exact retB TTok rfl (tt_congr (by rw [inT_3 ha k3]; exact ⟨fun h => ⟨hn, h⟩, fun ⟨_, h⟩ => h⟩))
    · have hn : ¬ 0 < t.nums.length := by simp [ofNat_cast] at hn; simp [hn]
      conv => whnf
      exact retB TTok rfl (tt_f (by rw [inT_3 ha k3]; exact fun ⟨l, _⟩ => hn l))
  have k3 : v.kind ≠ 3 := by simpa using k3
  conv => whnf
  refine bsel_intro (fun k4 => ?_) (fun k4 => ?_)
  · have k4 : v.kind = 4 := by simpa using k4
    conv => whnf
    refine bsel_intro (fun hat => ?_) (fun hat => ?_)
    · have hat : t.anyText = true := by simpa using hat
      conv => whnf
      exact retB TTok rfl (tt_t (.anyText k4 hat))
    have hat : t.anyText = false := by simpa using hat
    conv => whnf
    refine ⟨SExec.loop_p t.texts.length (fun k => ∀ j (h : j < t.texts.length), j < k → t.texts[j] ≠ v.text) (fun k => ⟨90, [(5, vInt k), (3, .bx 1 0), (2, .bx 0 0)], [.row 33 (cellsV (vVal v)), .row 27 (cellsV (vTy t))]⟩) (fun j _ h => absurd h (Nat.not_lt_zero _))
      (fun k => Nat.le_refl _) (St.subD_of rfl [] rfl rfl (.cons (.refl _) rfl (.cons (.refl _) rfl (.cons (.refl _) rfl .nil)))) ?_⟩
    intro k hk hI
    refine fx_sound TTok mixed ?_
    conv => whnf
    refine bsel_intro (fun hlt => ?_) (fun hlt => ?_)
    · have hlt : k < t.texts.length := by simpa using hlt
      conv => whnf
      (refine ⟨by decide +kernel, ?_⟩; conv => whnf)
      refine idxStr hlt rfl ?_
      conv => whnf
      refine bsel_intro (fun h1 => ?_) (fun h1 => ?_)
      · have h1 : t.texts[k] = v.text := strEq_iff.1 (by simpa using h1)
        conv => whnf
        exact retB TTok rfl (tt_t (.text k4 (h1 ▸ List.getElem_mem hlt)))
      · have h1 : t.texts[k] ≠ v.text := strEq_not.1 (by simpa using h1)
        conv => whnf
        refine ⟨⟨hlt, fun j h hj => ?_⟩, St.subD_of rfl _ rfl rfl (.cons (.of_eq (vInt_succ k (by omega))) rfl (.cons (.refl _) rfl (.cons (.refl _) rfl .nil)))⟩
        by_cases e : j = k
        · subst e; exact h1
        · exact hI j h (by omega)
    · have hge : t.texts.length ≤ k := by simpa using hlt
      conv => whnf
      refine retB TTok rfl (tt_f fun hx => ?_)
      rcases (inT_4 ha k4).1 hx with h | h
      · simp_all
      · obtain ⟨j, hj, e⟩ := List.mem_iff_getElem.1 h
        exact hI j hj (by omega) e
  have k4 : v.kind ≠ 4 := by simpa using k4
  conv => whnf
  refine bsel_intro (fun k5 => ?_) (fun k5 => ?_)
  · have k5 : v.kind = 5 := by simpa using k5
    conv => whnf
    (refine ⟨by decide +kernel, ?_⟩; conv => whnf)
    refine bsel_intro (fun hn => ?_) (fun hn => ?_)
    · have hn : 0 < t.arrays.length := by simp [ofNat_cast] at hn; omega
      conv => whnf
      refine idxAr (k := 0) hn rfl ?_
      conv => whnf
      refine (inArr_ok v.items t.arrays[0] fun x hx => iha _ (List.getElem_mem hn) (hit _ (List.getElem_mem hn)) x (all x hx)).useQ (.refl _) ?_
      conv => whnf
      exact retB TTok rfl (tt_congr (by rw [inT_5 ha k5]; exact ⟨fun h => ⟨hn, h⟩, fun ⟨_, h⟩ => h⟩))
    · have hn : ¬ 0 < t.arrays.length := by simp [ofNat_cast] at hn; simp [hn]
      conv => whnf
      exact retB TTok rfl (tt_f (by rw [inT_5 ha k5]; exact fun ⟨l, _⟩ => hn l))
  have k5 : v.kind ≠ 5 := by simpa using k5
  have k6 : v.kind = 6 := by omega
  conv => whnf
  refine ⟨SExec.loop_p t.objects.length (fun k => ∀ j (h : j < t.objects.length), j < k → ¬InOb v t.objects[j]) (fun k => ⟨90, [(6, vInt k), (3, .bx 1 0), (2, .bx 0 0)], [.row 33 (cellsV (vVal v)), .row 27 (cellsV (vTy t))]⟩) (fun j _ h => absurd h (Nat.not_lt_zero _))
    (fun k => Nat.le_refl _) (St.subD_of rfl [] rfl rfl (.cons (.refl _) rfl (.cons (.refl _) rfl (.cons (.refl _) rfl .nil)))) ?_⟩
  intro k hk hI
  refine fx_sound TTok mixed ?_
  conv => whnf
  refine bsel_intro (fun hlt => ?_) (fun hlt => ?_)
  · have hlt : k < t.objects.length := by simpa using hlt
    have hm := List.getElem_mem hlt
    conv => whnf
    (refine ⟨by decide +kernel, ?_⟩; conv => whnf)
    refine idxOb hlt rfl ?_
    conv => whnf
    refine (inOb_ok v t.objects[k] k6 (len k6) (hln _ hm).1 (hln _ hm).2 (fun f hf x hx => (iho _ hm).2 f hf (hfi _ hm f hf) x (all x hx)) fun x hx => (iho _ hm).1 (hre _ hm) x (all x hx)).useQ (.refl _) ?_
    conv => whnf
    refine bsel_intro (fun h1 => ?_) (fun h1 => ?_)
    · have h1 := tt_iff.1 (by simpa using h1)
      conv => whnf
      exact retB TTok rfl (tt_t ((inT_6 ha k6).2 ⟨_, hm, h1⟩))
    · have h1 := tt_not.1 (by simpa using h1)
      conv => whnf
      refine ⟨⟨hlt, fun j h hj => ?_⟩, St.subD_of rfl _ rfl rfl (.cons (.of_eq (vInt_succ k (by omega))) rfl (.cons (.refl _) rfl (.cons (.refl _) rfl .nil)))⟩
      by_cases e : j = k
      · subst e; exact h1
      · exact hI j h (by omega)
  · have hge : t.objects.length ≤ k := by simpa using hlt
    conv => whnf
    refine retB TTok rfl (tt_f fun hx => ?_)
    obtain ⟨o, ho, h⟩ := (inT_6 ha k6).1 hx
    obtain ⟨j, hj, rfl⟩ := List.mem_iff_getElem.1 ho
    exact hI j hj (by omega) h
end Go.Ab
