import Derived.Test.YtjggngbfmjneiaaDoorAbN
set_option linter.unusedVariables false
set_option linter.unusedSimpArgs false
namespace Go.Ab
section
variable {P : Program} {T : Tab}

/-! ### Letting go of what was made on the way -/
mutual
def V.lt (n : Nat) : V → Bool
  | .gs t _ => decide (t < n)
  | .bx id _ => decide (id < n)
  | .hs id _ _ => decide (id < n)
  | .agg cs => lts n cs
  | .tup cs => lts n cs
  | .fn _ a c => lts n a && lts n c
  | _ => true
def lts (n : Nat) : List V → Bool
  | [] => true
  | x :: l => x.lt n && lts n l
end

theorem lts_getD {n : Nat} : ∀ {l : List V} {j : Nat}, lts n l = true → (l.getD j .any).lt n = true
  | [], j, _ => by simp [V.lt]
  | x :: l, 0, h => by simp [lts] at h; exact h.1
  | x :: l, j + 1, h => by simp [lts] at h; simpa using lts_getD h.2

theorem Rep.take {F : Mem} {M : Pls} {v : Value} {x : V} (h : Rep F M v x) (n : Nat) : x.lt n = true → Rep F (M.take n) v x := by
  induction h with
  | any v => exact fun _ => .any v
  | d h => exact fun _ => .d h
  | gs h ht hle hv => intro hl; simp [V.lt] at hl; exact .gs h (by rw [List.getElem?_take, if_pos hl]; exact ht) hle hv
  | bx off h => intro hl; simp [V.lt] at hl; exact .bx off (by rw [List.getElem?_take, if_pos hl]; exact h)
  | rp a cells vals hf hr => exact fun _ => .rp a cells vals hf hr
  | xs h => exact fun _ => .xs h
  | hs off len cap h hl' => intro hl; simp [V.lt] at hl; exact .hs off len cap (by rw [List.getElem?_take, if_pos hl]; exact h) hl'
  | agg cs cells hs hr ih => intro hl; simp [V.lt] at hl; exact .agg cs cells hs fun j hj => ih j hj (lts_getD hl)
  | fn f a c first captured ha hc hra hrc iha ihc =>
    intro hl; simp [V.lt] at hl
    exact .fn f a c first captured ha hc (fun j hj => iha j hj (lts_getD hl.1)) (fun j hj => ihc j hj (lts_getD hl.2))
  | tup cs cells hs hr ih => intro hl; simp [V.lt] at hl; exact .tup cs cells hs fun j hj => ih j hj (lts_getD hl)

def O.lt (n : Nat) : O → Bool
  | .row _ cells => lts n cells
  | _ => true
def hpLt (n : Nat) (H : List O) : Bool := H.all (O.lt n)

theorem ObjRep.take {F : Mem} {M : Pls} {w : World} {o : O} {p : Pl} (h : ObjRep F M w o p) (n : Nat) (hl : o.lt n = true) : ObjRep F (M.take n) w o p := by
  cases h with
  | row ty cells blk c hc hs hr h1 hF => exact .row ty cells blk c hc hs (fun j hj => (hr j hj).take n (lts_getD hl)) h1 hF
  | nil ty sz => exact .nil ty sz
  | tok ty sz m blk cap c hc hs hn hcap hpre hF => exact .tok ty sz m blk cap c hc hs hn hcap hpre hF
  | dead p => exact .dead p

theorem Inv.take {F : Mem} {M : Pls} {w : World} {H extra : List O} (hi : Inv F M w (H ++ extra)) (hl : hpLt H.length H = true) : Inv F (M.take H.length) w H := by
  have hM : M.length = H.length + extra.length := by rw [hi.len]; simp
  have hm : ∀ (i : Nat) (p : Pl), (M.take H.length)[i]? = some p → i < H.length ∧ M[i]? = some p := fun i p h => by
    rw [List.getElem?_take] at h
    split at h
    · rename_i hlt; exact ⟨hlt, h⟩
    · cases h
  have hh : ∀ (i : Nat) (o : O), H[i]? = some o → (H ++ extra)[i]? = some o := fun i o h => by
    rw [List.getElem?_append_left (List.getElem?_eq_some_iff.1 h).1]; exact h
  refine ⟨hi.cells, by simp; omega, fun i o p h1 h2 => (hi.objs i o p (hh i o h1) (hm i p h2).2).take _ ?_, fun i j o o' p p' b hne h1 h2 l1 l2 m1 m2 => hi.sep i j o o' p p' b hne (hh _ _ h1) (hh _ _ h2) l1 l2 (hm _ _ m1).2 (hm _ _ m2).2,
    fun i p b h => hi.inb i p b (hm i p h).2, hi.gnd⟩
  exact List.all_eq_true.1 hl o (List.mem_iff_getElem?.2 ⟨i, h1⟩)

theorem Ext.take {F F' : Mem} {M M' : Pls} {w w' : World} {n : Nat} (x : Ext F M w F' M' w') (hn : M.length ≤ n) : Ext F M w F' (M'.take n) w' :=
  ⟨x.fle, fun i p h => by
    obtain ⟨p', h1, h2⟩ := x.mle i p h
    have := (List.getElem?_eq_some_iff.1 h).1
    exact ⟨p', by rw [List.getElem?_take, if_pos (by omega)]; exact h1, h2⟩,
   x.size, x.os, x.tape, x.output, x.old, x.newF, fun i p b h e => by
    rw [List.getElem?_take] at h
    split at h
    · exact x.newM i p b h e
    · cases h⟩

structure St.subD (s s' : St) : Prop where
  n : s.n = s'.n
  hp : ∃ extra, s.hp = s'.hp ++ extra
  hl : hpLt s'.hp.length s'.hp = true
  get : ∀ t, EntV (s.get t) (s'.get t) ∧ (s'.get t).lt s'.hp.length = true

theorem RelT.subD {F : Mem} {M : Pls} {a : Act} {w : World} {s s' : St} (h : RelSt F M a w s) (k : s.subD s') : RelSt F (M.take s'.hp.length) a w s' := by
  obtain ⟨extra, he⟩ := k.hp
  refine ⟨h.defers, h.size.trans k.n, ?_, fun t => ((k.get t).1 F M _ (h.tmps t)).take _ (k.get t).2⟩
  have hi := h.inv
  rw [he] at hi
  exact hi.take k.hl

inductive SubDL (s : St) (n : Nat) : List (Nat × V) → Prop where
  | nil : SubDL s n []
  | cons {t : Nat} {y : V} {l : List (Nat × V)} (h : EntV (s.get t) y) (hl : y.lt n = true) (k : SubDL s n l) : SubDL s n ((t, y) :: l)

theorem SubDL.get {s : St} {n : Nat} {l : List (Nat × V)} (h : SubDL s n l) (t : Nat) : EntV (s.get t) (getT t l) ∧ (getT t l).lt n = true := by
  induction h with
  | nil => exact ⟨.any _, rfl⟩
  | cons h hl k ih =>
    simp only [getT]
    split
    · rename_i e; subst e; exact ⟨h, hl⟩
    · exact ih

theorem St.subD_of {s s' : St} (hn : s.n = s'.n) (extra : List O) (hh : s.hp = s'.hp ++ extra) (hl : hpLt s'.hp.length s'.hp = true) (h : SubDL s s'.hp.length s'.tm) : s.subD s' := ⟨hn, ⟨extra, hh⟩, hl, h.get⟩

/-- The loop, by a family of states; what a round makes is let go. -/
theorem SExec.loop_d {ι : Type} {c : Code} {s : St} {Q : Exit → St → Prop} (σ : ι → St) (μ : ι → Nat) (i : ι) (hlen : ∀ i, s.hp.length ≤ (σ i).hp.length) (h0 : s.subD (σ i))
    (hr : ∀ i, SExec P c (σ i) (thenS (fun s' => ∃ j, μ j < μ i ∧ s'.subD (σ j)) Q)) : SExec P (.loop c) s Q := by
  intro F0 M0 w0 a0 r0
  have hM0 : M0.length = s.hp.length := r0.inv.len
  let T : Act → World → Nat → Prop := fun a w n => ∃ i F M, μ i = n ∧ RelSt F M a w (σ i) ∧ Ext F0 M0 w0 F M w
  refine wp_loop (fun a w => ∃ n, T a w n) (fun a w => least (T a w)) ⟨_, i, F0, _, rfl, r0.subD h0, (Ext.refl _ _ _).take (by rw [hM0]; exact hlen i)⟩ ?_
  intro a w hT
  obtain ⟨i, F, M, hm, r, x⟩ := least_spec hT
  refine wp_mono (hr i F M w a r) ?_
  rintro e a' w' ⟨s', F', M', q, r', x'⟩
  cases e with
  | normal =>
    obtain ⟨j, hj, hs⟩ := q
    have hT' : T a' w' (μ j) := ⟨j, F', _, rfl, r'.subD hs, (x.trans x').take (by rw [hM0]; exact hlen j)⟩
    refine ⟨⟨_, hT'⟩, ?_⟩
    rw [← hm]
    exact Nat.lt_of_le_of_lt (least_le hT') hj
  | exit id => exact ⟨s', F', M', q, r', x.trans x'⟩
  | goto l => exact ⟨s', F', M', q, r', x.trans x'⟩
  | ret => exact ⟨s', F', M', q, r', x.trans x'⟩
  | panic ch => exact ⟨s', F', M', q, r', x.trans x'⟩
  | outgrown => exact ⟨s', F', M', q, r', x.trans x'⟩

/-- What a body must show; what it has made is let go. -/
def RetD (P : Program) (fn : Func) (m : Nat) (Q : V → List O → Prop) : Exit → St → Prop
  | .normal, s => ∃ rs, ResL P s fn.results.toList rs ∧ ∃ r H extra, EntV (tupV rs) r ∧ s.hp = H ++ extra ∧ m ≤ H.length ∧ hpLt H.length H = true ∧ r.lt H.length = true ∧ Q r H
  | .ret, s => ∃ rs, ResL P s fn.results.toList rs ∧ ∃ r H extra, EntV (tupV rs) r ∧ s.hp = H ++ extra ∧ m ≤ H.length ∧ hpLt H.length H = true ∧ r.lt H.length = true ∧ Q r H
  | _, _ => False

theorem SCall.of_execD {k : FuncId} {fn : Func} {c : Code} {args : List V} {H : List O} {Q : V → List O → Prop} (hf : P.funcs[k]? = some fn) (hb : fn.body = some c) (hn : (fn.name == "runtime.NumGoroutine") = false)
    (h : SExec P c (initSt fn.ntmps args H) (RetD P fn H.length Q)) : SCall P k args H Q := by
  have hmid : SCall P k args H (fun r' H' => ∃ r H1 extra, EntV r' r ∧ H' = H1 ++ extra ∧ H.length ≤ H1.length ∧ hpLt H1.length H1 = true ∧ r.lt H1.length = true ∧ Q r H1) := by
    refine SCall.of_exec hf hb hn (h.mono ?_)
    intro e s hs
    cases e with
    | normal =>
      obtain ⟨rs, h1, r, H1, extra, h2, h3, h4, h5, h6, h7⟩ := hs
      exact ⟨rs, h1, r, H1, extra, h2, h3, h4, h5, h6, h7⟩
    | ret =>
      obtain ⟨rs, h1, r, H1, extra, h2, h3, h4, h5, h6, h7⟩ := hs
      exact ⟨rs, h1, r, H1, extra, h2, h3, h4, h5, h6, h7⟩
    | exit id => exact hs.elim
    | goto l => exact hs.elim
    | panic ch => exact hs.elim
    | outgrown => exact hs.elim
  refine ⟨hmid.1, fun F M w vals hi hr => (hmid.2 F M w vals hi hr).mono ?_⟩
  rintro e w' ⟨v, r', H', F', M', rfl, ⟨r, H1, extra, h2, rfl, h4, h5, h6, h7⟩, hv, hi', x⟩
  exact ⟨v, r, H1, F', _, rfl, h7, (h2 F' M' v hv).take _ h6, hi'.take h5, x.take (by rw [hi.len]; exact h4)⟩

/-! ### What says less -/
theorem EntV.trans {x y z : V} (h : EntV x y) (k : EntV y z) : EntV x z := fun F M v r => k F M v (h F M v r)
theorem EntV.gs_sl (t : Nat) (rows : List (List D)) : EntV (.gs t rows) (.d (.sl rows)) := fun F M v h => by cases h with | gs h => exact .d h
theorem EntV.xs_sl (rows : List (List D)) : EntV (.xs rows) (.d (.sl rows)) := fun F M v h => by cases h with | xs h => exact .d h
theorem EntV.nil_sl : EntV (.d (.lit (.slice none 0 0))) (.d (.sl [])) := fun F M v h => by rw [h.lit_inv]; exact .d (repD_nil F)
theorem EntV.of_eq {x y : V} (h : x = y) : EntV x y := h ▸ .refl _

inductive EntL : List V → List V → Prop where
  | nil : EntL [] []
  | cons {x y : V} {l m : List V} (h : EntV x y) (k : EntL l m) : EntL (x :: l) (y :: m)
theorem EntL.refl : ∀ l, EntL l l
  | [] => .nil
  | x :: l => .cons (.refl x) (EntL.refl l)
theorem EntL.length {l m : List V} (h : EntL l m) : l.length = m.length := by
  induction h with
  | nil => rfl
  | cons _ _ ih => simp [ih]
theorem EntL.get {l m : List V} (h : EntL l m) : ∀ j, EntV (l.getD j .any) (m.getD j .any) := by
  induction h with
  | nil => intro j; exact .refl _
  | cons h k ih => intro j; cases j with
    | zero => exact h
    | succ j => simpa using ih j
theorem EntV.agg {l m : List V} (h : EntL l m) : EntV (.agg l) (.agg m) := fun F M v r => by
  cases r with
  | agg cs _ hs hr => exact .agg cs _ (hs.trans h.length) fun j hj => h.get j F M _ (hr j (by rw [h.length]; exact hj))
theorem EntV.tup {l m : List V} (h : EntL l m) : EntV (.tup l) (.tup m) := fun F M v r => by
  cases r with
  | tup cs _ hs hr => exact .tup cs _ (hs.trans h.length) fun j hj => h.get j F M _ (hr j (by rw [h.length]; exact hj))

/-- Arguments that say less. -/
theorem SCall.args {k : FuncId} {args args' : List V} {H : List O} {Q : V → List O → Prop} (e : EntL args args') (h : SCall P k args' H Q) : SCall P k args H Q :=
  ⟨h.1, fun F M w vals hi hr => h.2 F M w vals hi ⟨hr.1.trans e.length, fun j hj => e.get j F M _ (hr.2 j (by rw [e.length]; exact hj))⟩⟩

theorem HCall.args {k : FuncId} {args args' : List V} {H : List O} {r : V} (e : EntL args args') (h : HCall P k args' H r) : HCall P k args H r := ⟨h.1.args e, h.2⟩

/-- A function of data, by its body. -/
theorem PCall.of_ex (hT : TabOk P T) (hm : P.follows .mixedOrders = true) {k : FuncId} {fn : Func} {c : Code} {args : List V} {r : V} (hf : P.funcs[k]? = some fn) (hb : fn.body = some c) (hn : (fn.name == "runtime.NumGoroutine") = false)
    (hr : r.pure = true) (ha : pures args = true) (h : ex P T c (initSt fn.ntmps args []) (RetD P fn 0 (fun r' _ => r' = r))) : PCall P k args r :=
  ⟨hr, ha, SCall.of_execD hf hb hn (ex_sound hT hm h)⟩

/-- A call of a function of data: what goes on. -/
theorem PCall.use {k : FuncId} {args args' : List V} {H : List O} {r : V} {K : V → List O → Prop} (h : PCall P k args' r) (e : EntL args args') (hk : K r H) : SCall P k args H K :=
  ((h.hcall H).1.args e).mono fun r' H' ⟨e1, e2⟩ => by subst e1; subst e2; exact hk
theorem PCall.use' {k : FuncId} {args : List V} {H : List O} {r : V} {K : V → List O → Prop} (h : PCall P k args r) (hk : K r H) : SCall P k args H K := h.use (.refl _) hk
theorem PCall.useQ {k : FuncId} {args args' : List V} {H : List O} {r : V} {K : V → Prop} (h : PCall P k args' r) (e : EntL args args') (hk : K r) : ∃ r, HCall P k args H r ∧ K r := ⟨r, (h.hcall H).args e, hk⟩

theorem PCall.eq {k : FuncId} {args args' : List V} {r r' : V} (h : PCall P k args r) (ea : args = args') (er : r = r') : PCall P k args' r' := by subst ea; subst er; exact h
end
end Go.Ab
