import Derived.Test.YtjggngbfmjneiaaDoorAbM
set_option linter.unusedVariables false
set_option linter.unusedSimpArgs false
namespace Go.Ab
section
variable {P : Program} {T : Tab}

theorem raw_yp {o : Oper} {g : Nat → V} {H : List O} {K : V → List O → Prop} {r : V} (h : Yp P o g H r) (k : K r H) : raw P o g H K := ⟨⟨r, H, h.yl, k⟩⟩
theorem raw_yl {o : Oper} {g : Nat → V} {H H' : List O} {K : V → List O → Prop} {r : V} (h : Yl P o g H r H') (k : K r H') : raw P o g H K := ⟨⟨r, H', h, k⟩⟩

theorem fieldOf_spec (hT : TabOk P T) {t : TypeId} {f : Nat} {off : Nat} {u : TypeId} {j : TI} (h : fieldOf T t f = some (off, u, j)) :
    ∃ fa fd, P.underlying t = some (.struct fa) ∧ fa[f]? = some fd ∧ fd.offset = off ∧ fd.type = u ∧ tiOf P u = some j := by
  unfold fieldOf at h
  cases ht : T t with
  | none => simp [ht] at h
  | some i =>
    simp only [ht] at h
    cases hk : i.k <;> simp only [hk] at h <;> try cases h
    rename_i fs
    cases hf : fs[f]? with
    | none => simp [hf] at h
    | some p =>
      obtain ⟨off', u'⟩ := p
      simp only [hf] at h
      cases hu : T u' with
      | none => simp [hu] at h
      | some j' =>
        simp [hu] at h
        obtain ⟨rfl, rfl, rfl⟩ := h
        obtain ⟨fa, h1, h2⟩ := ti_struct (hT _ _ ht) hk
        rw [← h2, List.getElem?_map] at hf
        cases hfa : fa.toList[f]? with
        | none => simp [hfa] at hf
        | some fd =>
          simp [hfa] at hf
          exact ⟨fa, fd, h1, by simpa using hfa, hf.1, hf.2, hT _ _ hu⟩

theorem sliceEl_spec (hT : TabOk P T) {t e : TypeId} {j : TI} (h : sliceEl T t = some (e, j)) : P.underlying t = some (.slice e) ∧ tiOf P e = some j := by
  unfold sliceEl at h
  cases ht : T t with
  | none => simp [ht] at h
  | some i =>
    simp only [ht] at h
    cases hk : i.k <;> simp only [hk] at h <;> try cases h
    rename_i e'
    cases hu : T e' with
    | none => simp [hu] at h
    | some j' =>
      simp [hu] at h
      obtain ⟨rfl, rfl⟩ := h
      exact ⟨ti_slice (hT _ _ ht) hk, hT _ _ hu⟩

theorem structPl_spec (hT : TabOk P T) : ∀ {fs : List (Nat × TypeId)} {pl : List (Nat × Nat)} {fa : List Field}, fa.map (fun f => (f.offset, f.type)) = fs → structPl T fs = some pl →
    fa.mapM (fun f => (P.info? f.type).map fun i => (f.offset, i.size)) = some pl
  | _, pl, [], e, h => by subst e; simp [structPl] at h; subst h; rfl
  | _, pl, f :: fa, e, h => by
    subst e
    simp only [List.map_cons, structPl] at h
    cases hu : T f.type with
    | none => simp [hu] at h
    | some i =>
      simp only [hu] at h
      cases hr : structPl T (fa.map fun f => (f.offset, f.type)) with
      | none => simp [hr] at h
      | some r =>
        simp [hr] at h
        subst h
        obtain ⟨inf, d, h1, h2, h3, h4, h5, h6⟩ := ti_parts (hT _ _ hu)
        simp [List.mapM_cons, h1, structPl_spec hT rfl hr, h4]

theorem isStr_spec (hT : TabOk P T) {t : TypeId} (h : isStr T t = true) : P.underlying t = some .string := by
  unfold isStr at h
  cases ht : T t with
  | none => simp [ht] at h
  | some i =>
    simp only [ht] at h
    cases hk : i.k <;> simp [hk] at h
    exact ti_str (hT _ _ ht) hk

theorem isBool_spec (hT : TabOk P T) {t : TypeId} (h : isBool T t = true) : P.underlying t = some .bool := by
  unfold isBool at h
  cases ht : T t with
  | none => simp [ht] at h
  | some i =>
    simp only [ht] at h
    cases hk : i.k <;> simp [hk] at h
    exact ti_bool (hT _ _ ht) hk

theorem evalLen_sound (hT : TabOk P T) {o : Oper} {g : Nat → V} {H : List O} {K : V → List O → Prop} {x : Operand} {t : TypeId} (ho : o.op = .call { callee := .builtin .len, args := #[x], argTypes := #[t] })
    (h : evalLen T g H x t (raw P o g H K) K) : raw P o g H K := by
  unfold evalLen at h
  split at h
  · rename_i i hi
    split at h
    · rename_i hk
      split at h
      · rename_i s hs; exact raw_yp (Yp.lenStr ho (ti_str (hT _ _ hi) hk) hs) h
      · exact h
    · rename_i e hk
      split at h
      · rename_i n hn; exact raw_yp (Yp.lenSlice ho (ti_slice (hT _ _ hi) hk) hn) h
      · exact h
    · exact h
  · exact h

theorem evalAppend_sound (hT : TabOk P T) {o : Oper} {g : Nat → V} {H : List O} {K : V → List O → Prop} {s x : Operand} {t : TypeId} (ho : o.op = .call { callee := .builtin .append, args := #[s, x], argTypes := #[t, t] })
    (h : evalAppend T g H s x t (raw P o g H K) K) : raw P o g H K := by
  unfold evalAppend at h
  split at h
  · rename_i e j tok rows news h1 h2 h3
    split at h
    · rename_i e' sz n z h4 h5
      obtain ⟨⟨rfl, rfl, rfl, c1, c2, c3, c4, c5, c6, c7⟩, hk⟩ := h
      obtain ⟨hs, he⟩ := sliceEl_spec hT h1
      exact raw_yl (Yl.append ho hs (ti_el he h5 c1 c2) h2 h4 h3 c3 c4 c5 c6 c7) hk
    · exact h
  · exact h

theorem evalBin_sound (hT : TabOk P T) {o : Oper} {g : Nat → V} {H : List O} {K : V → List O → Prop} {op : BinOp} {xt yt : TypeId} {x y : Operand} (ho : o.op = .binOp op xt x y yt)
    (h : evalBin T g H op xt x y (raw P o g H K) K) : raw P o g H K := by
  unfold evalBin at h
  split at h
  · rename_i k a k' b hx hy
    split at h
    · split at h
      · rename_i r hr; exact raw_yp (Yp.binShift ho hx hy hr) h
      · exact h
    · split at h
      · rename_i r hr; exact raw_yp (Yp.binShift ho hx hy hr) h
      · exact h
    · split at h
      · rename_i hk
        subst hk
        split at h
        · rename_i r hr; exact raw_yp (Yp.binInt ho hx hy hr) h
        · exact h
      · exact h
  · rename_i a b hx hy
    split at h
    · rename_i r hr; exact raw_yp (Yp.binStr ho hx hy hr) h
    · exact h
  · rename_i a b hx hy
    split at h
    · rename_i hb; exact raw_yp (Yp.eqlBool ho (isBool_spec hT hb) hx hy) h
    · rename_i hb; exact raw_yp (Yp.neqBool ho (isBool_spec hT hb) hx hy) h
    · exact h
  · exact h

theorem evalIndexAddr_sound (hT : TabOk P T) {o : Oper} {g : Nat → V} {H : List O} {K : V → List O → Prop} {t : TypeId} {x ix : Operand} (ho : o.op = .indexAddr t x ix)
    (h : evalIndexAddr T g H t x ix (raw P o g H K) K) : raw P o g H K := by
  unfold evalIndexAddr at h
  split at h
  · rename_i e j k i h1 h2
    obtain ⟨hs, he⟩ := sliceEl_spec hT h1
    split at h
    · rename_i id off len h3
      obtain ⟨hc, hk⟩ := chk_elim h
      simp at hc
      exact raw_yp (Yp.indexAddrOwn ho hs (ti_is he) h3 h2 hc.1 hc.2) hk
    · split at h
      · rename_i rows h4
        obtain ⟨c1, c2, c3, c4, hk⟩ := h
        exact raw_yp (Yp.indexAddr ho hs (ti_is he) h4 h2 c1 c2 c3 c4) hk
      · exact h
  · exact h

theorem evalIndex_sound (hT : TabOk P T) {o : Oper} {g : Nat → V} {H : List O} {K : V → List O → Prop} {t : TypeId} {x ix : Operand} (ho : o.op = .index t x ix)
    (h : evalIndex T g H t x ix (raw P o g H K) K) : raw P o g H K := by
  unfold evalIndex at h
  split at h
  · rename_i ti k i h1 h2
    split at h
    · rename_i s hk hx
      obtain ⟨h0, hlt, hk'⟩ := h
      exact raw_yp (Yp.indexStr ho (ti_str (hT _ _ h1) hk) hx h2 h0 hlt) hk'
    · rename_i len e cells hk hx
      split at h
      · rename_i j he
        obtain ⟨hc, h⟩ := chk_elim h
        obtain ⟨hc', h⟩ := chk_elim h
        simp at hc hc'
        split at h
        · rename_i r hr
          exact raw_yp (Yp.indexArr ho (ti_arr (hT _ _ h1) hk) (ti_is (hT _ _ he)) hx h2 hc.1 hc.2 hr hc') h
        · exact h
      · exact h
    · exact h
  · exact h

theorem evalSlice_sound (hT : TabOk P T) {o : Oper} {g : Nat → V} {H : List O} {K : V → List O → Prop} {t : TypeId} {x : Operand} {lo hi : Option Operand} (ho : o.op = .slice t x lo hi none)
    (h : evalSlice T g H t x lo hi (raw P o g H K) K) : raw P o g H K := by
  unfold evalSlice at h
  split at h
  · rename_i s a hst hx
    split at h
    · rename_i k l hl
      obtain ⟨hc, hk⟩ := chk_elim h
      simp at hc
      exact raw_yp (Yp.sliceStr (l := l.toNat) (h := s.size) ho (isStr_spec hT hst) hx ⟨k, by rw [hl, Int.toNat_of_nonneg hc.1]⟩ rfl (by omega) (Nat.le_refl _)) hk
    · exact h
  · rename_i s b hst hx
    split at h
    · rename_i k l hl
      obtain ⟨hc, hk⟩ := chk_elim h
      simp at hc
      exact raw_yp (Yp.sliceStr (l := 0) (h := l.toNat) ho (isStr_spec hT hst) hx rfl ⟨k, by rw [hl, Int.toNat_of_nonneg hc.1]⟩ (Nat.zero_le _) (by omega)) hk
    · exact h
  · exact h

theorem builtinEv_sound (hT : TabOk P T) {o : Oper} {g : Nat → V} {H : List O} {K : V → List O → Prop} {b : Builtin} {args : Array Operand} {ats : Array TypeId} (ho : o.op = .call { callee := .builtin b, args := args, argTypes := ats })
    (h : builtinEv P T o g H b args.toList ats.toList K) : raw P o g H K := by
  unfold builtinEv at h
  split at h
  · rename_i x t ha ht
    have e1 : args = #[x] := by apply Array.ext'; simpa using ha
    have e2 : ats = #[t] := by apply Array.ext'; simpa using ht
    subst e1; subst e2
    exact evalLen_sound hT ho h
  · rename_i s x t u ha ht
    have e1 : args = #[s, x] := by apply Array.ext'; simpa using ha
    have e2 : ats = #[t, u] := by apply Array.ext'; simpa using ht
    subst e1; subst e2
    split at h
    · rename_i e; subst e; exact evalAppend_sound hT ho h
    · exact h
  · rename_i x y ha
    have e1 : args = #[x, y] := by apply Array.ext'; simpa using ha
    subst e1
    split at h
    · rename_i k a k' b hx hy
      split at h
      · rename_i e; subst e; exact raw_yp (Yp.max2 ho hx hy) h
      · exact h
    · exact h
  · rename_i x y ha
    have e1 : args = #[x, y] := by apply Array.ext'; simpa using ha
    subst e1
    split at h
    · rename_i k a k' b hx hy
      split at h
      · rename_i e; subst e; exact raw_yp (Yp.min2 ho hx hy) h
      · exact h
    · exact h
  · exact h

theorem exPure_sound (hT : TabOk P T) {o : Oper} {g : Nat → V} {H : List O} {K : V → List O → Prop} (h : exPure P T o g H K) : raw P o g H K := by
  unfold exPure at h
  split at h
  · rename_i x ho; exact raw_yp (Yp.move (.inl ho)) h
  · rename_i x ho; exact raw_yp (Yp.move (.inr ho)) h
  · rename_i c a b ho
    split at h
    · rename_i t hc
      have hp := Yp.pick (P := P) (g := g) (H := H) t ho hc
      rcases bsel_elim h with ⟨e, h⟩ | ⟨e, h⟩ <;> subst e <;> exact raw_yp hp h
    · exact h
  · rename_i t ho
    split at h
    · rename_i i hi
      split at h
      · rename_i z hz
        obtain ⟨hc, hk⟩ := chk_elim h
        exact raw_yl (Yl.alloc ho (ti_zero (hT _ _ hi) hz) hc) hk
      · exact h
    · exact h
  · rename_i t x ho
    obtain ⟨hc, hk⟩ := chk_elim h
    exact raw_yl (Yl.box ho hc) hk
  · rename_i t a ho
    split at h
    · rename_i i hi
      split at h
      · rename_i r hr; exact raw_yp (Yp.load ho (ti_is (hT _ _ hi)) hr) h
      · exact h
    · exact h
  · rename_i t a x ho
    split at h
    · rename_i i id off hi ha
      split at h
      · rename_i ty cells hH
        obtain ⟨hc, hk⟩ := chk_elim h
        simp only [Bool.and_eq_true, decide_eq_true_eq] at hc
        exact raw_yl (Yl.store ho (ti_is (hT _ _ hi)) ha hH hc.1.1 hc.1.2 hc.2) hk
      · exact h
    · exact h
  · rename_i x ho
    split at h
    · rename_i i k hx; exact raw_yp (Yp.nilCheck ho (.inl ⟨_, _, hx⟩)) h
    · rename_i c hx; exact raw_yp (Yp.nilCheck ho (.inr (.inl ⟨_, hx⟩))) h
    · rename_i k a c hx; exact raw_yp (Yp.nilCheck ho (.inr (.inr ⟨_, _, _, hx⟩))) h
    · exact h
  · rename_i op xt x y yt ho; exact evalBin_sound hT ho h
  · rename_i op t x ho
    split at h
    · rename_i a hx; exact raw_yp (Yp.not ho hx) h
    · rename_i k a hx; exact raw_yp (Yp.neg ho hx) h
    · exact h
  · rename_i s t x ho
    split at h
    · rename_i i j k a hi hj hx
      split at h
      · rename_i k' hk
        obtain ⟨inf, d, h1, h2, h3⟩ := ti_parts (hT _ _ hi)
        exact raw_yp (Yp.convInt ho h2 (ti_int (hT _ _ hj) hk) hx) h
      · exact h
    · exact h
  · rename_i f a c ho; exact raw_yp (Yp.makeFunc ho) h
  · rename_i x i ho
    split at h
    · rename_i vs hx
      split at h
      · rename_i r hr; exact raw_yp (Yp.extract ho hx hr) h
      · exact h
    · exact h
  · rename_i t x f ho
    split at h
    · rename_i off u j id k hf hx
      obtain ⟨fa, fd, h1, h2, h3, h4, h5⟩ := fieldOf_spec hT hf
      obtain ⟨hc, hk⟩ := chk_elim h
      simp at hc
      subst h3; subst h4
      exact raw_yp (Yp.fieldAddrBx ho h1 h2 (ti_is h5) hc hx) hk
    · rename_i off u j cells hf hx
      obtain ⟨fa, fd, h1, h2, h3, h4, h5⟩ := fieldOf_spec hT hf
      obtain ⟨hc, hk⟩ := chk_elim h
      simp at hc
      subst h3; subst h4
      exact raw_yp (Yp.fieldAddrRp ho h1 h2 (ti_is h5) hc hx) hk
    · exact h
  · rename_i t x f ho
    split at h
    · rename_i off u j cells hf hx
      obtain ⟨fa, fd, h1, h2, h3, h4, h5⟩ := fieldOf_spec hT hf
      subst h3; subst h4
      split at h
      · rename_i r hr
        obtain ⟨hc, hk⟩ := chk_elim h
        simp at hc
        exact raw_yp (Yp.field ho h1 h2 (ti_is h5) hx hr hc) hk
      · exact h
    · exact h
  · rename_i t x ix ho; exact evalIndexAddr_sound hT ho h
  · rename_i t x ix ho; exact evalIndex_sound hT ho h
  · rename_i t x lo hi ho; exact evalSlice_sound hT ho h
  · rename_i t parts ho
    split at h
    · rename_i i hi
      split at h
      · rename_i z hz
        split at h
        · rename_i fs hk
          split at h
          · rename_i pl hpl
            rw [fillK_eq] at h
            split at h
            · rename_i r hr
              obtain ⟨hc, hkk⟩ := chk_elim h
              obtain ⟨fa, h1, h2⟩ := ti_struct (hT _ _ hi) hk
              exact raw_yp (Yp.buildStruct ho (ti_zero (hT _ _ hi) hz) hc (by unfold placesOf; rw [h1]; exact structPl_spec hT h2 hpl) hr) hkk
            · exact h
          · exact h
        · rename_i len e hk
          split at h
          · rename_i j he
            rw [fillK_eq] at h
            split at h
            · rename_i r hr
              obtain ⟨hc, hkk⟩ := chk_elim h
              exact raw_yp (Yp.buildArr ho (ti_zero (hT _ _ hi) hz) hc (ti_arr (hT _ _ hi) hk) (ti_is (hT _ _ he)) hr) hkk
            · exact h
          · exact h
        · exact h
      · exact h
    · exact h
  · rename_i t len parts ho
    split at h
    · rename_i e j hs
      obtain ⟨hsl, he⟩ := sliceEl_spec hT hs
      split at h
      · rename_i z hz
        rw [forceL_eq, fillK_eq] at h
        split at h
        · rename_i cells hcells
          rw [toDsK_eq] at h
          split at h
          · rename_i ds hds
            obtain ⟨hc, hk⟩ := chk_elim h
            simp only [Bool.and_eq_true, decide_eq_true_eq] at hc
            obtain ⟨⟨⟨⟨c1, c2⟩, c3⟩, c4⟩, c5⟩ := hc
            exact raw_yl (Yl.buildSlice ho hsl (ti_is he) (ti_zero he hz) c1 c2 c3 c4 hcells hds c5) hk
          · exact h
        · exact h
      · exact h
    · exact h
  · rename_i b args ats ho; exact builtinEv_sound hT ho h
  · exact h

/-! ### Operations in a row, code -/
def callOf : Op → Option (Operand × Array Operand)
  | .call { callee := .value f, args := args, argTypes := _ } => some (f, args)
  | _ => none
theorem callOf_spec {op : Op} {f : Operand} {args : Array Operand} (h : callOf op = some (f, args)) : ∃ ats, op = .call { callee := .value f, args := args, argTypes := ats } := by
  unfold callOf at h
  split at h
  · rename_i f' a' ats; cases h; exact ⟨ats, rfl⟩
  · cases h

def fnOf : V → Option (FuncId × List V × List V)
  | .fn (.func k) first cap => some (k, first, cap)
  | _ => none
theorem fnOf_spec {x : V} {k : FuncId} {first cap : List V} (h : fnOf x = some (k, first, cap)) : x = .fn (.func k) first cap := by
  unfold fnOf at h
  split at h
  · cases h; rfl
  · cases h

/-- A call, or an operation by itself. -/
def exOp (P : Program) (T : Tab) (o : Oper) (g : Nat → V) (H : List O) (K : V → List O → Prop) : Prop :=
  match callOf o.op with
  | some (f, args) => match fnOf (evO g f) with
    | some (k, first, cap) => SCall P k (first ++ (args.toList.map (evO g) ++ cap)) H K
    | none => False
  | none => exPure P T o g H K

def guardV (ops : Array Oper) (g : Nat → V) (j : Nat) : Option (Nat × Bool) :=
  match (ops[j]?).bind (·.dst) with
  | some t => match g t with
    | .d (.lit (.bool b)) => some (t, b)
    | _ => none
  | none => none

def skipV (ops : Array Oper) (g : Nat → V) (j : Nat) : Bool :=
  match (ops[j]?).bind (·.dst) with
  | some t => match g t with
    | .d (.lit (.tuple _)) => true
    | _ => false
  | none => false
theorem skipV_spec {ops : Array Oper} {g : Nat → V} {j : Nat} (h : skipV ops g j = true) : ∃ t c, (ops[j]?).bind (·.dst) = some t ∧ g t = .d (.lit (.tuple c)) := by
  unfold skipV at h
  split at h
  · rename_i t ht
    split at h
    · rename_i c hc
      exact ⟨t, c, ht, hc⟩
    · cases h
  · cases h

def exOps (P : Program) (T : Tab) (ops : Array Oper) : List Oper → St → (St → Prop) → Prop
  | [], s, K => K s
  | o :: l, s, K =>
    match o.guard with
    | none => exOp P T o s.get s.hp (fun r H' => exOps P T ops l ((s.heap H').put o.dst r) K)
    | some (j, want) => match guardV ops s.get j with
      | some (t, b) => bsel (b == want)
          (exOp P T o (s.put (some t) (.d (.lit (.bool want)))).get s.hp (fun r H' => exOps P T ops l (((s.put (some t) (.d (.lit (.bool want)))).heap H').put o.dst r) K))
          (exOps P T ops l ((s.put (some t) (.d (.lit (.bool (!want))))).put o.dst (.d (.lit undef))) K)
      | none => bsel (skipV ops s.get j) (exOps P T ops l (s.put o.dst (.d (.lit undef))) K) (SOps P ops (o :: l) s K)

theorem raw_sop {o : Oper} {s : St} {K : V → List O → Prop} (h : raw P o s.get s.hp K) : SOp P o s (fun s' => ∃ r H', K r H' ∧ s' = (s.heap H').put o.dst r) := by
  obtain ⟨⟨r, H', hy, hk⟩⟩ := h
  exact SOp.of_yl hy ⟨r, H', hk, rfl⟩

theorem exOp_sound (hT : TabOk P T) {o : Oper} {s : St} {K : V → List O → Prop} (h : exOp P T o s.get s.hp K) : SOp P o s (fun s' => ∃ r H', K r H' ∧ s' = (s.heap H').put o.dst r) := by
  unfold exOp at h
  split at h
  · rename_i f args hco
    obtain ⟨ats, ho⟩ := callOf_spec hco
    split at h
    · rename_i k first cap hf
      refine SOp.call ho (fnOf_spec hf) ?_
      rw [List.append_assoc]
      exact h.mono fun r H' hk => ⟨r, H', hk, rfl⟩
    · exact h.elim
  · exact raw_sop (exPure_sound hT h)

theorem put_same_sub {s : St} {t : Nat} {v : V} (h : s.get t = v) : s.sub (s.put (some t) v) := by
  refine ⟨(St.n_put s _ _).symm, (St.hp_put s _ _).symm, fun u => ?_⟩
  rw [St.get_put]
  by_cases hu : u = t
  · subst hu
    unfold putG
    dsimp only
    split
    · show EntV _ (if u = u then v else s.get u)
      rw [if_pos rfl, h]; exact .refl _
    · exact .refl _
  · rw [putG_ne (by simp; exact fun e => hu e.symm)]
    exact .refl _

theorem SOps.sub {ops : Array Oper} {l : List Oper} {s s' : St} {K : St → Prop} (k : s.sub s') (h : SOps P ops l s' K) : SOps P ops l s K :=
  fun F M w a rel Q hq => h F M w a (rel.sub k) Q hq

theorem exOps_sound (hT : TabOk P T) {ops : Array Oper} : ∀ {l : List Oper} {s : St} {K : St → Prop}, exOps P T ops l s K → SOps P ops l s K
  | [], s, K, h => SOps.nil h
  | o :: l, s, K, h => by
    simp only [exOps] at h
    split at h
    · rename_i hg
      refine SOps.cons hg ((exOp_sound hT h).mono ?_)
      rintro s' ⟨r, H', hk, rfl⟩
      exact exOps_sound hT hk
    · rename_i j want hg
      split at h
      · rename_i t b hgv
        have hspec : (ops[j]?).bind (·.dst) = some t ∧ s.get t = .d (.lit (.bool b)) := by
          unfold guardV at hgv
          split at hgv
          · rename_i t' ht'
            split at hgv
            · rename_i b' hb'
              cases hgv
              exact ⟨ht', hb'⟩
            · cases hgv
          · cases hgv
        obtain ⟨ht, hb⟩ := hspec
        rcases bsel_elim h with ⟨e, h2⟩ | ⟨e, h2⟩
        · have e' : b = want := by simpa using e
          subst e'
          have hsub := put_same_sub (s := s) hb
          refine SOps.sub hsub (SOps.cons_yes hg ht ?_ ?_)
          · have hn : (s.put (some t) (.d (.lit (.bool b)))).get t = s.get t := by
              rw [St.get_put]; unfold putG; dsimp only
              split
              · show (if t = t then _ else _) = _; rw [if_pos rfl, hb]
              · rfl
            rw [hn, hb]
          · have h' : exOp P T o (s.put (some t) (.d (.lit (.bool b)))).get (s.put (some t) (.d (.lit (.bool b)))).hp (fun r H' => exOps P T ops l (((s.put (some t) (.d (.lit (.bool b)))).heap H').put o.dst r) K) := by
              rw [St.hp_put]; exact h2
            refine (exOp_sound hT h').mono ?_
            rintro s' ⟨r, H', hk, rfl⟩
            exact exOps_sound hT hk
        · have e' : b = !want := by cases b <;> cases want <;> simp at e ⊢
          subst e'
          have hsub := put_same_sub (s := s) hb
          refine SOps.sub hsub (SOps.cons_no hg ht ?_ (exOps_sound hT h2))
          have hn : (s.put (some t) (.d (.lit (.bool (!want))))).get t = s.get t := by
            rw [St.get_put]; unfold putG; dsimp only
            split
            · show (if t = t then _ else _) = _; rw [if_pos rfl, hb]
            · rfl
          rw [hn, hb]
      · rcases bsel_elim h with ⟨e, h2⟩ | ⟨e, h2⟩
        · obtain ⟨t, c, ht, hc⟩ := skipV_spec e
          exact SOps.cons_skip hg ht hc (exOps_sound hT h2)
        · exact h2

/-! The same in a region that draws. -/
def exOpQ (P : Program) (T : Tab) (o : Oper) (g : Nat → V) (H : List O) (K : V → Prop) : Prop :=
  match callOf o.op with
  | some (f, args) => match fnOf (evO g f) with
    | some (k, first, cap) => ∃ r, HCall P k (first ++ (args.toList.map (evO g) ++ cap)) H r ∧ K r
    | none => False
  | none => exPure P T o g H (fun r H' => H' = H ∧ K r)

theorem exOpQ_sound (hT : TabOk P T) {o : Oper} {g : Nat → V} {H : List O} {K : V → Prop} (h : exOpQ P T o g H K) : ∃ r, Yc P o g H r ∧ K r := by
  unfold exOpQ at h
  split at h
  · rename_i f args hco
    obtain ⟨ats, ho⟩ := callOf_spec hco
    split at h
    · rename_i k first cap hf
      obtain ⟨r, hc, hk⟩ := h
      exact ⟨r, .inr ⟨f, args, ats, k, first, cap, ho, fnOf_spec hf, by rw [List.append_assoc]; exact hc⟩, hk⟩
    · exact h.elim
  · obtain ⟨⟨r, H', hy, rfl, hk⟩⟩ := exPure_sound hT h
    exact ⟨r, .inl hy, hk⟩

def exOpsQ (P : Program) (T : Tab) (ops : Array Oper) : List Oper → St → (St → Prop) → Prop
  | [], s, K => K s
  | o :: l, s, K =>
    match o.guard with
    | none => exOpQ P T o (mask o s.get) s.hp (fun r => exOpsQ P T ops l (s.put o.dst r) K)
    | some (j, want) => match guardV ops s.get j with
      | some (t, b) => bsel (b == want)
          (exOpQ P T o (mask o (s.put (some t) (.d (.lit (.bool want)))).get) s.hp (fun r => exOpsQ P T ops l ((s.put (some t) (.d (.lit (.bool want)))).put o.dst r) K))
          (exOpsQ P T ops l ((s.put (some t) (.d (.lit (.bool (!want))))).put o.dst (.d (.lit undef))) K)
      | none => bsel (skipV ops s.get j) (exOpsQ P T ops l (s.put o.dst (.d (.lit undef))) K) False

theorem get_put_same {s : St} {t : Nat} {v : V} (h : s.get t = v) : (s.put (some t) v).get = s.get := by
  rw [St.get_put]
  funext u
  by_cases hu : u = t
  · subst hu
    unfold putG; dsimp only
    split
    · show (if u = u then v else s.get u) = _; rw [if_pos rfl, h]
    · rfl
  · exact putG_ne (by simp; exact fun e => hu e.symm)

theorem exOpsQ_sound (hT : TabOk P T) {ops : Array Oper} : ∀ {l : List Oper} {s : St} {K : St → Prop}, exOpsQ P T ops l s K →
    ∃ zs : List (Oper × V), zs.map (·.1) = l ∧ QRun P ops s.n s.hp zs s.get ∧ ∃ s', K s' ∧ s'.n = s.n ∧ s'.hp = s.hp ∧ ∀ k, s'.get = gF s.n (fun _ => true) k zs s.get
  | [], s, K, h => ⟨[], rfl, trivial, s, h, rfl, rfl, fun _ => rfl⟩
  | o :: l, s, K, h => by
    simp only [exOpsQ] at h
    split at h
    · rename_i hg
      obtain ⟨r, hy, hk⟩ := exOpQ_sound hT h
      obtain ⟨zs, hz, hq, s', hks, hn, hh, hgg⟩ := exOpsQ_sound hT hk
      rw [St.n_put, St.hp_put, St.get_put] at hq
      rw [St.n_put] at hn
      rw [St.hp_put] at hh
      refine ⟨(o, r) :: zs, by simp [hz], ⟨.plain hg hy, hq⟩, s', hks, hn, hh, fun k => ?_⟩
      rw [hgg (k + 1), St.n_put, St.get_put]
      rfl
    · rename_i j want hg
      split at h
      · rename_i t b hgv
        have hspec : (ops[j]?).bind (·.dst) = some t ∧ s.get t = .d (.lit (.bool b)) := by
          unfold guardV at hgv
          split at hgv
          · rename_i t' ht'
            split at hgv
            · rename_i b' hb'
              cases hgv
              exact ⟨ht', hb'⟩
            · cases hgv
          · cases hgv
        obtain ⟨ht, hb⟩ := hspec
        rcases bsel_elim h with ⟨e, h2⟩ | ⟨e, h2⟩
        · have e' : b = want := by simpa using e
          subst e'
          have hsame := get_put_same (s := s) hb
          rw [hsame] at h2
          obtain ⟨r, hy, hk⟩ := exOpQ_sound hT h2
          obtain ⟨zs, hz, hq, s', hks, hn, hh, hgg⟩ := exOpsQ_sound hT hk
          rw [St.n_put, St.hp_put, St.get_put, St.n_put, St.hp_put, hsame] at hq
          rw [St.n_put, St.n_put] at hn
          rw [St.hp_put, St.hp_put] at hh
          refine ⟨(o, r) :: zs, by simp [hz], ⟨.yes hg ht hb hy, hq⟩, s', hks, hn, hh, fun k => ?_⟩
          rw [hgg (k + 1), St.n_put, St.n_put, St.get_put, St.n_put, hsame]
          rfl
        · have e' : b = !want := by cases b <;> cases want <;> simp at e ⊢
          subst e'
          have hsame := get_put_same (s := s) hb
          obtain ⟨zs, hz, hq, s', hks, hn, hh, hgg⟩ := exOpsQ_sound hT h2
          rw [St.n_put, St.hp_put, St.get_put, St.n_put, St.hp_put, hsame] at hq
          rw [St.n_put, St.n_put] at hn
          rw [St.hp_put, St.hp_put] at hh
          refine ⟨(o, .d (.lit undef)) :: zs, by simp [hz], ⟨.no hg ht hb rfl, hq⟩, s', hks, hn, hh, fun k => ?_⟩
          rw [hgg (k + 1), St.n_put, St.n_put, St.get_put, St.n_put, hsame]
          rfl
      · rcases bsel_elim h with ⟨e, h2⟩ | ⟨e, h2⟩
        · obtain ⟨t, c, ht, hc⟩ := skipV_spec e
          obtain ⟨zs, hz, hq, s', hks, hn, hh, hgg⟩ := exOpsQ_sound hT h2
          rw [St.n_put, St.hp_put, St.get_put] at hq
          rw [St.n_put] at hn
          rw [St.hp_put] at hh
          refine ⟨(o, .d (.lit undef)) :: zs, by simp [hz], ⟨.skip hg ht hc rfl, hq⟩, s', hks, hn, hh, fun k => ?_⟩
          rw [hgg (k + 1), St.n_put, St.get_put]
          rfl
        · exact h2.elim

def boolOf : V → Option Bool
  | .d (.lit (.bool t)) => some t
  | _ => none
theorem boolOf_spec {x : V} {t : Bool} (h : boolOf x = some t) : x = .d (.lit (.bool t)) := by
  unfold boolOf at h
  split at h
  · cases h; rfl
  · cases h

def ex (P : Program) (T : Tab) : Code → St → (Exit → St → Prop) → Prop
  | .skip, s, Q => Q .normal s
  | .label _, s, Q => Q .normal s
  | .exit id, s, Q => Q (.exit id) s
  | .goto l, s, Q => Q (.goto l) s
  | .ret, s, Q => Q .ret s
  | .seq a b, s, Q => ex P T a s (thenS (fun s' => ex P T b s' Q) Q)
  | .block id c, s, Q => ex P T c s (blockS id Q)
  | .cond c a b, s, Q => match boolOf (s.ev c) with
    | some t => bsel t (ex P T a s Q) (ex P T b s Q)
    | none => False
  | .region id ops false, s, Q => exOps P T ops ops.toList s (Q .normal)
  | .region id ops true, s, Q => okDraw ops = true ∧ exOpsQ P T ops ops.toList s (Q .normal)
  | c, s, Q => SExec P c s Q

theorem thenS_mono {K K' : St → Prop} {Q : Exit → St → Prop} (h : ∀ s, K s → K' s) : ∀ e s, thenS K Q e s → thenS K' Q e s := by
  intro e s
  cases e <;> first | exact h s | exact id

theorem ex_sound (hT : TabOk P T) (hm : P.follows .mixedOrders = true) : ∀ {c : Code} {s : St} {Q : Exit → St → Prop}, ex P T c s Q → SExec P c s Q := by
  intro c
  induction c with
  | skip => exact fun h => .skip h
  | label l => exact fun h => .label h
  | exit id => exact fun h => .exit h
  | goto l => exact fun h => .goto h
  | ret => exact fun h => .ret h
  | seq a b iha ihb => exact fun h => .seq ((iha h).mono (thenS_mono fun s hs => ihb hs))
  | block id c ih => exact fun h => .block (ih h)
  | cond c a b iha ihb =>
    intro s Q h
    simp only [ex] at h
    split at h
    · rename_i t ht
      have h := bsel_elim h
      refine .cond t (boolOf_spec ht) (fun e => ?_) (fun e => ?_)
      · subst e; rcases h with ⟨_, h⟩ | ⟨h, _⟩; exact iha h; cases h
      · subst e; rcases h with ⟨h, _⟩ | ⟨_, h⟩; cases h; exact ihb h
    · exact h.elim
  | region id ops draw =>
    intro s Q h
    cases draw with
    | false => exact .region (exOps_sound hT h)
    | true =>
      obtain ⟨hok, h⟩ := h
      obtain ⟨zs, hz, hq, s', hk, hn, hh, hg⟩ := exOpsQ_sound hT h
      exact .region_draw hm hok zs hz hq s' hn hh (fun t => by rw [hg 0]; exact .refl _) hk
  | loop c _ => exact fun h => h
  | rangeFunc f ps a b _ _ => exact fun h => h
  | scope c _ => exact fun h => h
  | refuse w => exact fun h => h
end
end Go.Ab
