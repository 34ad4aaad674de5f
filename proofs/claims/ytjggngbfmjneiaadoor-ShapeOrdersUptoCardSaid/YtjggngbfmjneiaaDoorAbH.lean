import Derived.Test.YtjggngbfmjneiaaDoorAbG
set_option linter.unusedVariables false
set_option linter.unusedSimpArgs false
namespace Go.Ab
section
variable {P : Program}

/-! ### From a body to a contract -/
def resF (tmps : Array Value) (x : ResultVar) : Sem Value :=
  match x with
  | .tmp t => pure (tmps.getD t undef)
  | .cell a t => do loadVar t (← asAddr (tmps.getD a undef))

theorem results_eq (fn : Func) (tmps : Array Value) : results fn tmps = (do let vs ← fn.results.mapM (resF tmps); pure (if h : vs.size = 1 then vs[0] else .tuple vs)) := rfl

theorem run_arr_mapM {α : Type} (f : α → Sem Value) (arr : Array α) (vs : List Value) (w : World) (h : (arr.toList.mapM f).run P w = .ok vs w) : (arr.mapM f).run P w = .ok vs.toArray w := by
  rw [Array.mapM_eq_mapM_toList]; simp [h]

theorem resV_sound {F : Mem} {M : Pls} {a : Act} {w : World} {s : St} {x : ResultVar} {r : V} (rel : RelSt F M a w s) (h : ResV P s x r) :
    ∃ v, (resF a.tmps x).run P w = .ok v w ∧ Rep F M v r := by
  cases h with
  | tmp t => exact ⟨a.tmps.getD t undef, by simp [resF], rel.tmps t⟩
  | @cell t ty agg n r ht h =>
    obtain ⟨ad, u, hv, hrun, hu⟩ := loadA_sound rel.inv (rel.tmps t) ht h
    refine ⟨u, ?_, hu⟩
    simp only [resF, hv, asAddr, Sem.run_bind, Sem.run_pure, Result.andThen_ok, hrun]

theorem resL_sound {F : Mem} {M : Pls} {a : Act} {w : World} {s : St} (rel : RelSt F M a w s) : ∀ {l : List ResultVar} {rs : List V}, ResL P s l rs →
    ∃ vs : List Value, (l.mapM (resF a.tmps)).run P w = .ok vs w ∧
      vs.length = rs.length ∧ ∀ j, j < rs.length → Rep F M (vs.getD j undef) (rs.getD j .any)
  | _, _, .nil => ⟨[], by simp, rfl, fun j hj => by simp at hj⟩
  | _, _, .cons h k => by
    obtain ⟨v, hv, hr⟩ := resV_sound rel h
    obtain ⟨vs, hvs, hl, hrs⟩ := resL_sound rel k
    refine ⟨v :: vs, ?_, by simp [hl], fun j hj => ?_⟩
    · simp only [List.mapM_cons, Sem.run_bind, hv, Result.andThen_ok, hvs, Sem.run_pure]
    · cases j with
      | zero => exact hr
      | succ j => simp at hj; simpa using hrs j hj

theorem results_sound {F : Mem} {M : Pls} {a : Act} {w : World} {s : St} {fn : Func} {rs : List V} (rel : RelSt F M a w s) (h : ResL P s fn.results.toList rs) :
    ∃ v, (results fn a.tmps).run P w = .ok v w ∧ Rep F M v (tupV rs) := by
  obtain ⟨vs, hrun, hl, hr⟩ := resL_sound rel h
  have hm := run_arr_mapM (P := P) _ fn.results vs w hrun
  rw [results_eq]
  simp only [Sem.run_bind, hm, Result.andThen_ok, Sem.run_pure]
  refine ⟨_, rfl, ?_⟩
  match rs, hl, hr with
  | [x], hl, hr =>
    obtain ⟨v, rfl⟩ := List.length_eq_one_iff.1 hl
    exact hr 0 (by simp)
  | [], hl, hr =>
    have : vs = [] := List.eq_nil_of_length_eq_zero hl
    subst this
    exact .tup #[] [] rfl (fun j hj => by simp at hj)
  | x :: y :: rs, hl, hr =>
    rw [dif_neg (by simp; simp at hl; omega)]
    refine .tup _ _ (by simpa using hl) fun j hj => ?_
    have := hr j hj
    simpa [List.getD_eq_getElem?_getD, Array.getD_eq_getD_getElem?] using this

/-- What a body must show. -/
def RetS (P : Program) (fn : Func) (Q : V → List O → Prop) : Exit → St → Prop
  | .normal, s => ∃ rs, ResL P s fn.results.toList rs ∧ Q (tupV rs) s.hp
  | .ret, s => ∃ rs, ResL P s fn.results.toList rs ∧ Q (tupV rs) s.hp
  | _, _ => False

theorem SCall.of_exec {k : FuncId} {fn : Func} {c : Code} {args : List V} {H : List O} {Q : V → List O → Prop} (hf : P.funcs[k]? = some fn) (hb : fn.body = some c) (hn : (fn.name == "runtime.NumGoroutine") = false)
    (h : SExec P c (initSt fn.ntmps args H) (RetS P fn Q)) : SCall P k args H Q := by
  refine ⟨enters_of hf hb hn, fun F M w vals hi hr => ?_⟩
  refine calls_of_wp hf hb ?_
  have rel : RelSt F M { tmps := vals.toArray ++ Array.replicate (fn.ntmps - vals.toArray.size) undef, defers := [] } w (initSt fn.ntmps args H) := by
    refine ⟨rfl, by simp [initSt, hr.1], hi, fun t => ?_⟩
    show Rep F M _ (getT t (initTm 0 args))
    rw [getT_init]
    simp only [Nat.zero_le, if_true, Nat.sub_zero]
    by_cases ht : t < args.length
    · have := hr.2 t ht
      have ht' : t < vals.length := by rw [hr.1]; exact ht
      have e : (vals.toArray ++ Array.replicate (fn.ntmps - vals.toArray.size) undef).getD t undef = vals.getD t undef := by
        simp [Array.getD_eq_getD_getElem?, List.getD_eq_getElem?_getD, Array.getElem?_append, ht']
      rw [e]; exact this
    · have e : args.getD t .any = .any := by simp [List.getD_eq_getElem?_getD, List.getElem?_eq_none (Nat.le_of_not_lt ht)]
      rw [e]; exact .any _
  refine wp_mono (h F M w _ rel) ?_
  rintro e a' w' ⟨s', F', M', q, rel', x⟩
  cases e with
  | normal =>
    obtain ⟨rs, hres, hq⟩ := q
    obtain ⟨v, hrun, hv⟩ := results_sound rel' hres
    exact ⟨rel'.defers, v, hrun, v, _, _, F', M', rfl, hq, hv, rel'.inv, x⟩
  | ret =>
    obtain ⟨rs, hres, hq⟩ := q
    obtain ⟨v, hrun, hv⟩ := results_sound rel' hres
    exact ⟨rel'.defers, v, hrun, v, _, _, F', M', rfl, hq, hv, rel'.inv, x⟩
  | exit id => exact q.elim
  | goto l => exact q.elim
  | panic ch => exact q.elim
  | outgrown => exact q.elim

/-! ### Answers that are data: what the call made for itself is let go -/
mutual
def V.pure : V → Bool
  | .d _ => true
  | .rp _ => true
  | .xs _ => true
  | .agg cs => pures cs
  | .tup cs => pures cs
  | .fn _ a c => pures a && pures c
  | .any => true
  | _ => false
def pures : List V → Bool
  | [] => true
  | x :: l => x.pure && pures l
end

theorem pures_getD : ∀ {l : List V} {j : Nat}, pures l = true → j < l.length → (l.getD j .any).pure = true
  | x :: l, 0, h, _ => by simp [pures] at h; exact h.1
  | x :: l, j + 1, h, hj => by simp [pures] at h; simp at hj; simpa using pures_getD h.2 hj

theorem Rep.pure {F : Mem} {M : Pls} {v : Value} {x : V} (h : Rep F M v x) (M' : Pls) : x.pure = true → Rep F M' v x := by
  induction h with
  | any v => exact fun _ => .any v
  | d h => exact fun _ => .d h
  | gs => intro h; simp [V.pure] at h
  | bx => intro h; simp [V.pure] at h
  | rp a cells vals hf hr => exact fun _ => .rp a cells vals hf hr
  | xs h => exact fun _ => .xs h
  | hs => intro h; simp [V.pure] at h
  | agg cs cells hs hr ih =>
    intro h
    simp [V.pure] at h
    exact .agg cs cells hs fun j hj => ih j hj (pures_getD h hj)
  | fn f a c first captured ha hc hra hrc iha ihc =>
    intro h
    simp [V.pure] at h
    exact .fn f a c first captured ha hc (fun j hj => iha j hj (pures_getD h.1 hj)) (fun j hj => ihc j hj (pures_getD h.2 hj))
  | tup cs cells hs hr ih =>
    intro h
    simp [V.pure] at h
    exact .tup cs cells hs fun j hj => ih j hj (pures_getD h hj)

/-- The call answers r, and leaves what is there as it is. -/
structure HCall (P : Program) (k : FuncId) (args : List V) (H : List O) (r : V) : Prop where
  call : SCall P k args H (fun r' H' => r' = r ∧ H' = H)
  pure : r.pure = true

/-- A function of data. -/
structure PCall (P : Program) (k : FuncId) (args : List V) (r : V) : Prop where
  pure : r.pure = true
  argsPure : pures args = true
  call : SCall P k args [] (fun r' _ => r' = r)

theorem Inv.drop {F : Mem} {M : Pls} {w : World} {H : List O} (hi : Inv F M w H) : Inv F [] w [] :=
  ⟨hi.cells, rfl, fun i o p h => by simp at h, fun i j o o' p p' b _ h => by simp at h, fun i p b h => by simp at h, hi.gnd⟩

/-- From the world as seen without the call's own things, back. -/
theorem Inv.back {F F' : Mem} {M M' : Pls} {w w' : World} {H H' : List O} (hi : Inv F M w H) (hi' : Inv F' M' w' H') (x : Ext F [] w F' M' w') : Inv F' M w' H ∧ Ext F M w F' M w' := by
  have hb : ∀ b, b < w.heap.size → w'.heap[b]? = w.heap[b]? := fun b hb => x.old b hb (fun i p h => by simp at h)
  have hn : ∀ b, b < w.heap.size → ∀ o s, F ⟨b, o, s⟩ = none → F' ⟨b, o, s⟩ = none := fun b hb o s h => by
    cases h' : F' ⟨b, o, s⟩ with
    | none => rfl
    | some v =>
      rcases x.newF _ h (by rw [h']; simp) with h1 | ⟨i, p, h1, _⟩
      · simp at h1; omega
      · simp at h1
  refine ⟨⟨hi'.cells, hi.len, fun i o p h1 h2 => (hi.objs i o p h1 h2).mono x.fle (.refl _) (fun b e => hb b (hi.inb i p b h2 e)) (fun b e => hn b (hi.inb i p b h2 e)), hi.sep,
    fun i p b h e => Nat.lt_of_lt_of_le (hi.inb i p b h e) x.size, hi'.gnd⟩, ⟨x.fle, .refl _, x.size, x.os, x.tape, x.output, fun k hk _ => hb k hk, fun a h h' => ?_, fun i p b h e => .inr ⟨i, p, h, e⟩⟩⟩
  rcases x.newF a h h' with h1 | ⟨i, p, h1, _⟩
  · exact .inl h1
  · simp at h1

theorem PCall.hcall {k : FuncId} {args : List V} {r : V} (h : PCall P k args r) (H : List O) : HCall P k args H r := by
  obtain ⟨hp, ha, ⟨he, hc⟩⟩ := h
  refine ⟨⟨he, fun F M w vals hi hr => ?_⟩, hp⟩
  refine (hc F [] w vals hi.drop ⟨hr.1, fun j hj => (hr.2 j hj).pure [] (pures_getD ha hj)⟩).mono ?_
  rintro e w' ⟨v, r', H', F', M', rfl, rfl, hv, hi', x⟩
  obtain ⟨h1, h2⟩ := hi.back hi' x
  exact ⟨v, r', H, F', M, rfl, ⟨rfl, rfl⟩, hv.pure M hp, h1, h2⟩

theorem SOp.call_h {o : Oper} {s : St} {K : St → Prop} {f : Operand} {args : Array Operand} {ats : Array TypeId} {k : FuncId} {first captured : List V} {r : V}
    (ho : o.op = .call { callee := .value f, args := args, argTypes := ats }) (hf : s.ev f = .fn (.func k) first captured)
    (h : HCall P k (first ++ args.toList.map s.ev ++ captured) s.hp r) (hk : K (s.put o.dst r)) : SOp P o s K :=
  SOp.call ho hf (h.1.mono fun r' H' ⟨e1, e2⟩ => by subst e1; subst e2; exact hk)
end
end Go.Ab
