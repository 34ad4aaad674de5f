import Derived.Test.YtjggngbfmjneiaaDoorAbB
set_option linter.unusedVariables false
set_option linter.unusedSimpArgs false
namespace Go.Ab
section
variable {P : Program}

/-- One operation that is no call of a Go function. -/
def Yl (P : Program) (o : Oper) (g : Nat → V) (H : List O) (r : V) (H' : List O) : Prop :=
  ∀ F M w (ρ : Operand → Value), Inv F M w H → (∀ x, Rep F M (ρ x) (evO g x)) → ∃ v w' F' M',
    ((execOp ρ o).run P w = .ok (.value v) w' ∨ ((execOp ρ o).run P w = .ok .skip w' ∧ v = undef)) ∧ Rep F' M' v r ∧ Inv F' M' w' H' ∧ Ext F M w F' M' w'

/-- One that leaves the world alone. -/
def Yp (P : Program) (o : Oper) (g : Nat → V) (H : List O) (r : V) : Prop :=
  ∀ F M w (ρ : Operand → Value), Inv F M w H → (∀ x, Rep F M (ρ x) (evO g x)) → ∃ v, (execOp ρ o).run P w = .ok (.value v) w ∧ Rep F M v r

theorem Yp.yl {o : Oper} {g : Nat → V} {H : List O} {r : V} (h : Yp P o g H r) : Yl P o g H r H := fun F M w ρ hi hr =>
  let ⟨v, e, hv⟩ := h F M w ρ hi hr
  ⟨v, w, F, M, .inl e, hv, hi, .refl _ _ _⟩

def SOp (P : Program) (o : Oper) (s : St) (K : St → Prop) : Prop :=
  ∀ F M w a, RelSt F M a w s → ∀ (next : Act → World → Prop) (Q : Exit → Act → World → Prop),
    (∀ s' F' M' a' w', K s' → RelSt F' M' a' w' s' → Ext F M w F' M' w' → next a' w') → o.wp P a w next Q

def St.heap (s : St) (H : List O) : St := { s with hp := H }

theorem SOp.of_yl {o : Oper} {s : St} {K : St → Prop} {r : V} {H' : List O} (h : Yl P o s.get s.hp r H') (k : K ((s.heap H').put o.dst r)) : SOp P o s K := by
  intro F M w a rel next Q hn
  obtain ⟨v, w', F', M', hrun, hv, hi, x⟩ := h F M w a.eval rel.inv rel.ev
  have hrel : RelSt F' M' (a.put o.dst v) w' ((s.heap H').put o.dst r) := by
    have := RelT.put rel x.fle x.mle hi o.dst hv
    unfold RelSt
    rw [St.get_put, St.n_put, St.hp_put]
    exact this
  unfold Oper.wp
  rcases hrun with hrun | ⟨hrun, rfl⟩
  · rw [hrun]; exact hn _ _ _ _ _ k hrel x
  · rw [hrun]; exact hn _ _ _ _ _ k hrel x

theorem SOp.of_yp {o : Oper} {s : St} {K : St → Prop} {r : V} (h : Yp P o s.get s.hp r) (k : K (s.put o.dst r)) : SOp P o s K :=
  SOp.of_yl h.yl k

theorem SOp.mono {o : Oper} {s : St} {K K' : St → Prop} (h : SOp P o s K) (k : ∀ s, K s → K' s) : SOp P o s K' :=
  fun F M w a rel next Q hn => h F M w a rel next Q fun s' F' M' a' w' hk => hn s' F' M' a' w' (k _ hk)

def SOps (P : Program) (ops : Array Oper) (l : List Oper) (s : St) (K : St → Prop) : Prop :=
  ∀ F M w a, RelSt F M a w s → ∀ (Q : Exit → Act → World → Prop),
    (∀ s' F' M' a' w', K s' → RelSt F' M' a' w' s' → Ext F M w F' M' w' → Q .normal a' w') → wpList P ops Q l a w

theorem SOps.nil {ops : Array Oper} {s : St} {K : St → Prop} (h : K s) : SOps P ops [] s K :=
  fun F M w a rel Q hq => hq s F M a w h rel (.refl _ _ _)

theorem SOps.cons {ops : Array Oper} {o : Oper} {l : List Oper} {s : St} {K : St → Prop} (hg : o.guard = none) (h : SOp P o s (fun s' => SOps P ops l s' K)) : SOps P ops (o :: l) s K := by
  intro F M w a rel Q hq
  unfold wpList
  rw [if_pos (by simp [Region.wanted, hg])]
  refine .inl (h F M w a rel _ Q ?_)
  intro s' F' M' a' w' hs' rel' x
  exact hs' F' M' w' a' rel' Q fun s'' F'' M'' a'' w'' hk rel'' x' => hq s'' F'' M'' a'' w'' hk rel'' (x.trans x')

theorem wanted_of {ops : Array Oper} {o : Oper} {s : St} {j t : Nat} {want b : Bool} {F : Mem} {M : Pls} {a : Act} {w : World} (hg : o.guard = some (j, want)) (ht : (ops[j]?).bind (·.dst) = some t)
    (hb : s.get t = .d (.lit (.bool b))) (rel : RelSt F M a w s) : Region.wanted o (yielded ops a.tmps) = (b == want) := by
  have hv := rel.tmps t
  rw [hb] at hv
  have hv := hv.lit_inv
  have hlt : t < a.tmps.size := by
    rcases Nat.lt_or_ge t a.tmps.size with h | h
    · exact h
    · rw [Array.getD_eq_getD_getElem?, Array.getElem?_eq_none h] at hv; cases hv
  simp [Array.getD_eq_getD_getElem?, hlt] at hv
  simp [Region.wanted, hg, yielded, ht, hlt, hv]

theorem skipped_of {ops : Array Oper} {o : Oper} {s : St} {j t : Nat} {want : Bool} {c : Array Value} {F : Mem} {M : Pls} {a : Act} {w : World} (hg : o.guard = some (j, want)) (ht : (ops[j]?).bind (·.dst) = some t)
    (hb : s.get t = .d (.lit (.tuple c))) (rel : RelSt F M a w s) : Region.wanted o (yielded ops a.tmps) = false := by
  have hv := rel.tmps t
  rw [hb] at hv
  have hv := hv.lit_inv
  by_cases hlt : t < a.tmps.size
  · simp [Array.getD_eq_getD_getElem?, hlt] at hv
    simp [Region.wanted, hg, yielded, ht, hlt, hv]
  · simp [Region.wanted, hg, yielded, ht, hlt]

theorem SOps.cons_skip {ops : Array Oper} {o : Oper} {l : List Oper} {s : St} {K : St → Prop} {j t : Nat} {want : Bool} {c : Array Value} (hg : o.guard = some (j, want)) (ht : (ops[j]?).bind (·.dst) = some t)
    (hb : s.get t = .d (.lit (.tuple c))) (h : SOps P ops l (s.put o.dst (.d (.lit undef))) K) : SOps P ops (o :: l) s K := by
  intro F M w a rel Q hq
  unfold wpList
  rw [if_neg (by rw [skipped_of hg ht hb rel]; simp)]
  have hrel : RelSt F M (a.put o.dst undef) w (s.put o.dst (.d (.lit undef))) := by
    have := RelT.put rel (.refl _) (.refl _) rel.inv o.dst (Rep.lit undef)
    unfold RelSt
    rw [St.get_put, St.n_put, St.hp_put]
    exact this
  exact h F M w _ hrel Q hq

theorem SOps.cons_yes {ops : Array Oper} {o : Oper} {l : List Oper} {s : St} {K : St → Prop} {j t : Nat} {want : Bool} (hg : o.guard = some (j, want)) (ht : (ops[j]?).bind (·.dst) = some t)
    (hb : s.get t = .d (.lit (.bool want))) (h : SOp P o s (fun s' => SOps P ops l s' K)) : SOps P ops (o :: l) s K := by
  intro F M w a rel Q hq
  unfold wpList
  rw [if_pos (by rw [wanted_of hg ht hb rel]; simp)]
  refine .inl (h F M w a rel _ Q ?_)
  intro s' F' M' a' w' hs' rel' x
  exact hs' F' M' w' a' rel' Q fun s'' F'' M'' a'' w'' hk rel'' x' => hq s'' F'' M'' a'' w'' hk rel'' (x.trans x')

theorem SOps.cons_no {ops : Array Oper} {o : Oper} {l : List Oper} {s : St} {K : St → Prop} {j t : Nat} {want : Bool} (hg : o.guard = some (j, want)) (ht : (ops[j]?).bind (·.dst) = some t)
    (hb : s.get t = .d (.lit (.bool (!want)))) (h : SOps P ops l (s.put o.dst (.d (.lit undef))) K) : SOps P ops (o :: l) s K := by
  intro F M w a rel Q hq
  unfold wpList
  rw [if_neg (by rw [wanted_of hg ht hb rel]; cases want <;> simp)]
  have hrel : RelSt F M (a.put o.dst undef) w (s.put o.dst (.d (.lit undef))) := by
    have := RelT.put rel (.refl _) (.refl _) rel.inv o.dst (Rep.lit undef)
    unfold RelSt
    rw [St.get_put, St.n_put, St.hp_put]
    exact this
  exact h F M w _ hrel Q hq

theorem SExec.region {id : Nat} {ops : Array Oper} {s : St} {Q : Exit → St → Prop} (h : SOps P ops ops.toList s (Q .normal)) : SExec P (.region id ops false) s Q := by
  intro F M w a rel
  refine wp_region_list (h F M w a rel _ ?_)
  intro s' F' M' a' w' hk rel' x
  exact ⟨s', F', M', hk, rel', x⟩

/-! ### Calls -/
def Enters (P : Program) (k : FuncId) : Prop := ∀ w args, (callFunc k args).run P w = .ok (.enter k args) w

theorem enters_of {k : FuncId} {fn : Func} {c : Code} (h : P.funcs[k]? = some fn) (hb : fn.body = some c) (hn : (fn.name == "runtime.NumGoroutine") = false) : Enters P k := by
  intro w args
  have hn' : ¬ fn.name = "runtime.NumGoroutine" := by simpa using hn
  simp [callFunc, h, hn', hb]

def Reps (F : Mem) (M : Pls) (vals : List Value) (args : List V) : Prop :=
  vals.length = args.length ∧ ∀ j, j < args.length → Rep F M (vals.getD j undef) (args.getD j .any)

structure SCall (P : Program) (k : FuncId) (args : List V) (H : List O) (Q : V → List O → Prop) : Prop where
  enters : Enters P k
  calls : ∀ F M w vals, Inv F M w H → Reps F M vals args →
    Calls P k vals.toArray w (fun e w' => ∃ v r H' F' M', e = .returned v ∧ Q r H' ∧ Rep F' M' v r ∧ Inv F' M' w' H' ∧ Ext F M w F' M' w')

theorem SCall.mono {k : FuncId} {args : List V} {H : List O} {Q Q' : V → List O → Prop} (h : SCall P k args H Q) (hq : ∀ r H', Q r H' → Q' r H') : SCall P k args H Q' :=
  ⟨h.1, fun F M w vals hi hr => (h.2 F M w vals hi hr).mono fun e w' ⟨v, r, H', F', M', he, q, rest⟩ => ⟨v, r, H', F', M', he, hq _ _ q, rest⟩⟩

theorem reps_append {F : Mem} {M : Pls} {xs ys : List Value} {as bs : List V} (h : Reps F M xs as) (k : Reps F M ys bs) : Reps F M (xs ++ ys) (as ++ bs) := by
  refine ⟨by simp [h.1, k.1], fun j hj => ?_⟩
  simp only [List.length_append] at hj
  by_cases hl : j < as.length
  · have := h.2 j hl
    simp only [List.getD_eq_getElem?_getD] at *
    rwa [List.getElem?_append_left (by rw [h.1]; exact hl), List.getElem?_append_left hl]
  · have := k.2 (j - as.length) (by omega)
    simp only [List.getD_eq_getElem?_getD] at *
    rwa [List.getElem?_append_right (by rw [h.1]; omega), List.getElem?_append_right (by omega), h.1]

theorem SOp.call {o : Oper} {s : St} {K : St → Prop} {f : Operand} {args : Array Operand} {ats : Array TypeId} {k : FuncId} {first captured : List V}
    (ho : o.op = .call { callee := .value f, args := args, argTypes := ats }) (hf : s.ev f = .fn (.func k) first captured)
    (h : SCall P k (first ++ args.toList.map s.ev ++ captured) s.hp (fun r H' => K ((s.heap H').put o.dst r))) : SOp P o s K := by
  intro F M w a rel next Q hn
  have hv := rel.ev f
  rw [show evO s.get f = s.ev f from rfl, hf] at hv
  generalize hfv : a.eval f = fv at hv
  cases hv with
  | fn _ A C _ _ hA hC hrA hrC =>
    have hrun : (execOp a.eval o).run P w = .ok (.enter k (A ++ args.map a.eval ++ C)) w := by
      have := h.1 w (A ++ args.map a.eval ++ C)
      simp [execOp, ho, resolve, hfv, Deferred.ofValue, invoke] at *
      exact this
    unfold Oper.wp
    rw [hrun]
    show Calls P k _ w _
    have hreps : Reps F M (A.toList ++ (args.map a.eval).toList ++ C.toList) (first ++ args.toList.map s.ev ++ captured) := by
      refine reps_append (reps_append ⟨by simpa using hA, fun j hj => ?_⟩ ⟨by simp, fun j hj => ?_⟩) ⟨by simpa using hC, fun j hj => ?_⟩
      · simpa [List.getD_eq_getElem?_getD, Array.getD_eq_getD_getElem?] using hrA j hj
      · simp at hj
        simp [List.getD_eq_getElem?_getD, hj]
        exact rel.ev _
      · simpa [List.getD_eq_getElem?_getD, Array.getD_eq_getD_getElem?] using hrC j hj
    have hc := h.2 F M w _ rel.inv hreps
    have e : (A.toList ++ (args.map a.eval).toList ++ C.toList).toArray = A ++ args.map a.eval ++ C := by
      apply Array.ext'; simp
    rw [e] at hc
    refine hc.mono ?_
    rintro e w' ⟨v, r, H', F', M', rfl, hk, hvr, hi, x⟩
    refine hn _ F' M' _ _ hk ?_ x
    have := RelT.put rel x.fle x.mle hi o.dst hvr
    unfold RelSt
    rw [St.get_put, St.n_put, St.hp_put]
    exact this

def initTm : Nat → List V → List (Nat × V)
  | _, [] => []
  | i, x :: l => (i, x) :: initTm (i + 1) l

def initSt (m : Nat) (args : List V) (H : List O) : St := { n := args.length + (m - args.length), tm := initTm 0 args, hp := H }

theorem getT_init (args : List V) : ∀ i t, getT t (initTm i args) = if i ≤ t then args.getD (t - i) .any else .any := by
  induction args with
  | nil => intro i t; simp [initTm, getT]
  | cons x l ih =>
    intro i t
    simp only [initTm, getT]
    by_cases h : t = i
    · subst h; simp
    · rw [if_neg h, ih]
      by_cases h2 : i ≤ t
      · rw [if_pos h2, if_pos (by omega)]
        obtain ⟨m, hm⟩ : ∃ m, t - i = m + 1 := ⟨t - i - 1, by omega⟩
        rw [hm, show t - (i + 1) = m by omega]; simp
      · rw [if_neg h2, if_neg (by omega)]

def loadA (agg : Bool) (n : Nat) (H : List O) (x : V) : Option V :=
  match x with
  | .bx id off => match H[id]? with
    | some (.row _ cells) => if agg then (if off + n ≤ cells.length then some (.agg ((cells.drop off).take n)) else none) else cells[off]?
    | _ => none
  | .rp cells => if agg then (if n ≤ cells.length then some (.agg ((cells.take n).map .d)) else none) else (cells[0]?).map .d
  | _ => none

def isAggD : TypeDesc → Bool
  | .struct _ | .array _ _ => true
  | _ => false

/-- What a type's row of the table says: is it a struct or an array; how many cells. -/
def TyIs (P : Program) (t : TypeId) (agg : Bool) (n : Nat) : Prop := (P.underlying t).map isAggD = some agg ∧ (P.info? t).map (·.size) = some n

inductive ResV (P : Program) (s : St) : ResultVar → V → Prop where
  | tmp (t : Tmp) : ResV P s (.tmp t) (s.get t)
  | cell {t : Tmp} {ty : TypeId} {agg : Bool} {n : Nat} {r : V} (ht : TyIs P ty agg n) (h : loadA agg n s.hp (s.get t) = some r) : ResV P s (.cell t ty) r

inductive ResL (P : Program) (s : St) : List ResultVar → List V → Prop where
  | nil : ResL P s [] []
  | cons {x : ResultVar} {l : List ResultVar} {r : V} {rs : List V} (h : ResV P s x r) (k : ResL P s l rs) : ResL P s (x :: l) (r :: rs)

def tupV : List V → V
  | [x] => x
  | l => .tup l
end
end Go.Ab
