import Derived.Test.YtjggngbfmjneiaaDoorAbO
set_option linter.unusedVariables false
set_option linter.unusedSimpArgs false
namespace Go.Ab
section
variable {P : Program} {T : Tab}

/-! ### The evaluator that keeps its states laid out -/
def force (x : V) (k : V → Prop) : Prop := match x with
  | .d (.lit v) => k (.d (.lit v))
  | .d (.sl r) => k (.d (.sl r))
  | .gs t r => k (.gs t r)
  | .bx i o => k (.bx i o)
  | .rp c => k (.rp c)
  | .xs r => k (.xs r)
  | .hs i o l => k (.hs i o l)
  | .agg c => k (.agg c)
  | .fn f a c => k (.fn f a c)
  | .tup l => k (.tup l)
  | .any => k .any
theorem force_eq (x : V) (k : V → Prop) : force x k = k x := by
  cases x with
  | d x => cases x <;> rfl
  | _ => rfl

noncomputable def evArgs (g : Nat → V) (l : List Operand) : (List V → Prop) → Prop :=
  @List.rec Operand (fun _ => (List V → Prop) → Prop) (fun k => k []) (fun x _ ih k => force (evO g x) fun v => ih fun vs => k (v :: vs)) l
theorem evArgs_cons (g : Nat → V) (x : Operand) (l : List Operand) (k : List V → Prop) : evArgs g (x :: l) k = force (evO g x) fun v => evArgs g l fun vs => k (v :: vs) := rfl
theorem evArgs_eq (g : Nat → V) : ∀ (l : List Operand) (k : List V → Prop), evArgs g l k = k (l.map (evO g))
  | [], k => rfl
  | x :: l, k => by rw [evArgs_cons, force_eq, evArgs_eq g l, List.map_cons]

def putS (n : Nat) (tm : List (Nat × V)) (hp : List O) (d : Option Tmp) (r : V) : St := match d with
  | some d => if d < n then ⟨n, (d, r) :: tm, hp⟩ else ⟨n, tm, hp⟩
  | none => ⟨n, tm, hp⟩
theorem putS_eq (n : Nat) (tm : List (Nat × V)) (hp : List O) (d : Option Tmp) (r : V) : putS n tm hp d r = (St.put ⟨n, tm, hp⟩ d r) := by
  cases d with
  | none => rfl
  | some d => unfold putS St.put; rfl

def callS (P : Program) (k : FuncId) (first args cap : List V) (H : List O) (K : V → List O → Prop) : Prop := match first, cap with
  | [], [] => SCall P k args H K
  | first, cap => SCall P k (first ++ (args ++ cap)) H K
theorem callS_eq (k : FuncId) (first args cap : List V) (H : List O) (K : V → List O → Prop) : callS P k first args cap H K = SCall P k (first ++ (args ++ cap)) H K := by
  unfold callS
  split
  · simp
  · rfl

def callQ (P : Program) (k : FuncId) (first args cap : List V) (H : List O) (K : V → Prop) : Prop := match first, cap with
  | [], [] => ∃ r, HCall P k args H r ∧ K r
  | first, cap => ∃ r, HCall P k (first ++ (args ++ cap)) H r ∧ K r
theorem callQ_eq (k : FuncId) (first args cap : List V) (H : List O) (K : V → Prop) : callQ P k first args cap H K = ∃ r, HCall P k (first ++ (args ++ cap)) H r ∧ K r := by
  unfold callQ
  split
  · simp
  · rfl

def fOp (P : Program) (T : Tab) (o : Oper) (g : Nat → V) (H : List O) (K : V → List O → Prop) : Prop :=
  match callOf o.op with
  | some (f, args) => match fnOf (evO g f) with
    | some (k, first, cap) => evArgs g args.toList fun vs => callS P k first vs cap H K
    | none => False
  | none => exPure P T o g H K
theorem fOp_eq (o : Oper) (g : Nat → V) (H : List O) (K : V → List O → Prop) : fOp P T o g H K = exOp P T o g H K := by
  unfold fOp exOp
  cases callOf o.op with
  | none => rfl
  | some p =>
    obtain ⟨f, args⟩ := p
    dsimp only
    cases fnOf (evO g f) with
    | none => rfl
    | some q =>
      obtain ⟨k, first, cap⟩ := q
      show evArgs _ _ _ = _
      rw [evArgs_eq, callS_eq]

/-- The same, where nothing of the own things may change. -/
abbrev RQ (P : Program) (o : Oper) (g : Nat → V) (H : List O) (K : V → Prop) : Prop := raw P o g H (fun r H' => H' = H ∧ K r)
def exPureQ (P : Program) (T : Tab) (o : Oper) (g : Nat → V) (H : List O) (K : V → Prop) : Prop :=
  match o.op with
  | .move x => K (evO g x)
  | .assign x => K (evO g x)
  | .pick c a b => match evO g c with
    | .d (.lit (.bool t)) => bsel t (K (evO g a)) (K (evO g b))
    | _ => RQ P o g H K
  | .load t a => match T t with
    | some i => match loadA i.k.agg i.size H (evO g a) with
      | some r => K r
      | none => RQ P o g H K
    | none => RQ P o g H K
  | .nilCheck x => match evO g x with
    | .bx _ _ => K (evO g x)
    | .rp _ => K (evO g x)
    | .fn (.func _) _ _ => K (evO g x)
    | _ => RQ P o g H K
  | .binOp op xt x y _ => evalBin T g H op xt x y (RQ P o g H K) (fun r _ => K r)
  | .unOp op _ x => match op, evO g x with
    | .not, .d (.lit (.bool a)) => K (.d (.lit (.bool (!a))))
    | .neg, .d (.lit (.int k a)) => K (.d (.lit (.int k (k.wrap (0 - a)))))
    | _, _ => RQ P o g H K
  | .convert s t x => match T s, T t, evO g x with
    | some _, some j, .d (.lit (.int _ a)) => match j.k with
      | .int k' => K (.d (.lit (.int k' (k'.wrap a))))
      | _ => RQ P o g H K
    | _, _, _ => RQ P o g H K
  | .makeFunc f a c => K (.fn f (a.toList.map (evO g)) (c.toList.map (evO g)))
  | .extract x i => match evO g x with
    | .tup vs => match vs[i]? with
      | some r => K r
      | none => RQ P o g H K
    | _ => RQ P o g H K
  | .fieldAddr t x f => match fieldOf T t f, evO g x with
    | some (off, _, j), .bx id k => chk (decide (0 < j.size)) (K (.bx id (k + off)))
    | some (off, _, j), .rp cells => chk (decide (0 < j.size)) (K (.rp (cells.drop off)))
    | _, _ => RQ P o g H K
  | .field t x f => match fieldOf T t f, evO g x with
    | some (off, _, j), .agg cells => match partV j.k.agg j.size cells off with
      | some r => chk (decide (off + j.size ≤ cells.length)) (K r)
      | none => RQ P o g H K
    | _, _ => RQ P o g H K
  | .indexAddr t x ix => evalIndexAddr T g H t x ix (RQ P o g H K) (fun r _ => K r)
  | .index t x ix => evalIndex T g H t x ix (RQ P o g H K) (fun r _ => K r)
  | .slice t x lo hi none => evalSlice T g H t x lo hi (RQ P o g H K) (fun r _ => K r)
  | .build t parts => match T t with
    | some i => match i.zero with
      | some z => match i.k with
        | .struct fs => match structPl T fs with
          | some pl => fillK (fun i => pl.toArray[i]?) (parts.toList.map fun (i, x) => (i, evO g x)) (cellsV z) (fun r => chk ((cellsV z).all V.oneC) (K (.agg r))) (RQ P o g H K)
          | none => RQ P o g H K
        | .arr _ e => match T e with
          | some j => fillK (fun i => some (i * j.size, j.size)) (parts.toList.map fun (i, x) => (i, evO g x)) (cellsV z) (fun r => chk ((cellsV z).all V.oneC) (K (.agg r))) (RQ P o g H K)
          | none => RQ P o g H K
        | _ => RQ P o g H K
      | none => RQ P o g H K
    | none => RQ P o g H K
  | .call { callee := .builtin .len, args := ⟨[x]⟩, argTypes := ⟨[t]⟩ } => evalLen T g H x t (RQ P o g H K) (fun r _ => K r)
  | _ => exPure P T o g H (fun r H' => H' = H ∧ K r)

theorem same_and {H : List O} {K : V → Prop} : (fun r => H = H ∧ K r) = K := funext fun r => by simp
theorem idxS_Q {rows : List (List D)} {i : Int} {n : Nat} {K : V → Prop} {H : List O} : IdxS rows i n (fun r H' => H' = H ∧ K r) H = IdxS rows i n (fun r _ => K r) H :=
  propext ⟨fun h => ⟨h.nonneg, h.lt, h.len, h.pos, h.go.2⟩, fun h => ⟨h.nonneg, h.lt, h.len, h.pos, rfl, h.go⟩⟩
theorem idxStr_Q {s : ByteArray} {i : Int} {K : V → Prop} {H : List O} : IdxStr s i (fun r H' => H' = H ∧ K r) H = IdxStr s i (fun r _ => K r) H :=
  propext ⟨fun h => ⟨h.nonneg, h.lt, h.go.2⟩, fun h => ⟨h.nonneg, h.lt, rfl, h.go⟩⟩
theorem exPureQ_eq (o : Oper) (g : Nat → V) (H : List O) (K : V → Prop) : exPureQ P T o g H K = exPure P T o g H (fun r H' => H' = H ∧ K r) := by
  unfold exPureQ
  split
  all_goals (try rfl)
  all_goals (rename_i ho)
  all_goals (simp only [RQ, exPure, ho, builtinEv, evalLen, evalBin, evalIndexAddr, evalIndex, evalSlice, true_and, idxS_Q, idxStr_Q] <;> first | done | rfl)

def fOpQ (P : Program) (T : Tab) (o : Oper) (g : Nat → V) (H : List O) (K : V → Prop) : Prop :=
  match callOf o.op with
  | some (f, args) => match fnOf (evO g f) with
    | some (k, first, cap) => evArgs g args.toList fun vs => callQ P k first vs cap H K
    | none => False
  | none => exPureQ P T o g H K
theorem fOpQ_eq (o : Oper) (g : Nat → V) (H : List O) (K : V → Prop) : fOpQ P T o g H K = exOpQ P T o g H K := by
  unfold fOpQ exOpQ
  cases callOf o.op with
  | none => exact exPureQ_eq o g H K
  | some p =>
    obtain ⟨f, args⟩ := p
    dsimp only
    cases fnOf (evO g f) with
    | none => rfl
    | some q =>
      obtain ⟨k, first, cap⟩ := q
      show evArgs _ _ _ = _
      rw [evArgs_eq, callQ_eq]

/-- What the evaluator hands over. -/
structure Raw (p : Prop) : Prop where
  out : p

def fOpsStep (P : Program) (T : Tab) (ops : Array Oper) (o : Oper) (l : List Oper) (ih : St → (St → Prop) → Prop) (s : St) (K : St → Prop) : Prop := match s with
  | ⟨n, tm, hp⟩ =>
    match o.guard with
    | none => fOp P T o (fun t => getT t tm) hp (fun r H' => force r fun r => ih (putS n tm H' o.dst r) K)
    | some (j, want) => match guardV ops (fun t => getT t tm) j with
      | some (t, b) => bsel (b == want)
          (match putS n tm hp (some t) (.d (.lit (.bool want))) with
            | ⟨n, tm, _⟩ => fOp P T o (fun t => getT t tm) hp (fun r H' => force r fun r => ih (putS n tm H' o.dst r) K))
          (match putS n tm hp (some t) (.d (.lit (.bool (!want)))) with
            | ⟨n, tm, hp⟩ => ih (putS n tm hp o.dst (.d (.lit undef))) K)
      | none => bsel (skipV ops (fun t => getT t tm) j) (ih (putS n tm hp o.dst (.d (.lit undef))) K) (Raw (SOps P ops (o :: l) ⟨n, tm, hp⟩ K))
noncomputable def fOps (P : Program) (T : Tab) (ops : Array Oper) (l : List Oper) : St → (St → Prop) → Prop :=
  @List.rec Oper (fun _ => St → (St → Prop) → Prop) (fun s K => K s) (fun o l ih => fOpsStep P T ops o l ih) l
theorem fOps_cons (ops : Array Oper) (o : Oper) (l : List Oper) (n : Nat) (tm : List (Nat × V)) (hp : List O) (K : St → Prop) : fOps P T ops (o :: l) ⟨n, tm, hp⟩ K =
    match o.guard with
    | none => fOp P T o (fun t => getT t tm) hp (fun r H' => force r fun r => fOps P T ops l (putS n tm H' o.dst r) K)
    | some (j, want) => match guardV ops (fun t => getT t tm) j with
      | some (t, b) => bsel (b == want)
          (match putS n tm hp (some t) (.d (.lit (.bool want))) with
            | ⟨n, tm, _⟩ => fOp P T o (fun t => getT t tm) hp (fun r H' => force r fun r => fOps P T ops l (putS n tm H' o.dst r) K))
          (match putS n tm hp (some t) (.d (.lit (.bool (!want)))) with
            | ⟨n, tm, hp⟩ => fOps P T ops l (putS n tm hp o.dst (.d (.lit undef))) K)
      | none => bsel (skipV ops (fun t => getT t tm) j) (fOps P T ops l (putS n tm hp o.dst (.d (.lit undef))) K) (Raw (SOps P ops (o :: l) ⟨n, tm, hp⟩ K)) := rfl

theorem exPure_congr {o : Oper} {g : Nat → V} {H : List O} {K K' : V → List O → Prop} (h : K = K') : exPure P T o g H K = exPure P T o g H K' := by rw [h]

theorem get_mk (n : Nat) (tm : List (Nat × V)) (hp : List O) : St.get ⟨n, tm, hp⟩ = fun t => getT t tm := rfl

theorem fOps_eq (ops : Array Oper) : ∀ (l : List Oper) (s : St) (K : St → Prop), fOps P T ops l s K = exOps P T ops l s K
  | [], s, K => rfl
  | o :: l, ⟨n, tm, hp⟩, K => by
    cases hg : o.guard with
    | none =>
      simp only [fOps_cons, exOps, hg]
      rw [fOp_eq]
      exact congrArg _ (funext fun r => funext fun H' => by rw [force_eq, fOps_eq ops l, putS_eq]; rfl)
    | some p =>
      obtain ⟨j, want⟩ := p
      simp only [fOps_cons, exOps, hg, get_mk]
      cases hgv : guardV ops (fun t => getT t tm) j with
      | none =>
        dsimp only
        congr 1
        · rw [fOps_eq ops l, putS_eq]
        · exact propext ⟨fun h => h.out, fun h => ⟨h⟩⟩
      | some q =>
        obtain ⟨t, b⟩ := q
        dsimp only
        congr 1
        · rw [putS_eq]
          generalize hs : St.put ⟨n, tm, hp⟩ (some t) (.d (.lit (.bool want))) = s1
          obtain ⟨n1, tm1, hp1⟩ := s1
          dsimp only
          rw [fOp_eq]
          exact congrArg _ (funext fun r => funext fun H' => by rw [force_eq, fOps_eq ops l, putS_eq]; rfl)
        · rw [putS_eq]
          generalize hs : St.put ⟨n, tm, hp⟩ (some t) (.d (.lit (.bool (!want)))) = s1
          obtain ⟨n1, tm1, hp1⟩ := s1
          rw [fOps_eq ops l, putS_eq, hs]

def fOpsQStep (P : Program) (T : Tab) (ops : Array Oper) (o : Oper) (l : List Oper) (ih : St → (St → Prop) → Prop) (s : St) (K : St → Prop) : Prop := match s with
  | ⟨n, tm, hp⟩ =>
    match o.guard with
    | none => fOpQ P T o (mask o fun t => getT t tm) hp (fun r => force r fun r => ih (putS n tm hp o.dst r) K)
    | some (j, want) => match guardV ops (fun t => getT t tm) j with
      | some (t, b) => bsel (b == want)
          (match putS n tm hp (some t) (.d (.lit (.bool want))) with
            | ⟨n, tm, _⟩ => fOpQ P T o (mask o fun t => getT t tm) hp (fun r => force r fun r => ih (putS n tm hp o.dst r) K))
          (match putS n tm hp (some t) (.d (.lit (.bool (!want)))) with
            | ⟨n, tm, _⟩ => ih (putS n tm hp o.dst (.d (.lit undef))) K)
      | none => bsel (skipV ops (fun t => getT t tm) j) (ih (putS n tm hp o.dst (.d (.lit undef))) K) False
noncomputable def fOpsQ (P : Program) (T : Tab) (ops : Array Oper) (l : List Oper) : St → (St → Prop) → Prop :=
  @List.rec Oper (fun _ => St → (St → Prop) → Prop) (fun s K => K s) (fun o l ih => fOpsQStep P T ops o l ih) l
theorem fOpsQ_cons (ops : Array Oper) (o : Oper) (l : List Oper) (n : Nat) (tm : List (Nat × V)) (hp : List O) (K : St → Prop) : fOpsQ P T ops (o :: l) ⟨n, tm, hp⟩ K =
    match o.guard with
    | none => fOpQ P T o (mask o fun t => getT t tm) hp (fun r => force r fun r => fOpsQ P T ops l (putS n tm hp o.dst r) K)
    | some (j, want) => match guardV ops (fun t => getT t tm) j with
      | some (t, b) => bsel (b == want)
          (match putS n tm hp (some t) (.d (.lit (.bool want))) with
            | ⟨n, tm, _⟩ => fOpQ P T o (mask o fun t => getT t tm) hp (fun r => force r fun r => fOpsQ P T ops l (putS n tm hp o.dst r) K))
          (match putS n tm hp (some t) (.d (.lit (.bool (!want)))) with
            | ⟨n, tm, _⟩ => fOpsQ P T ops l (putS n tm hp o.dst (.d (.lit undef))) K)
      | none => bsel (skipV ops (fun t => getT t tm) j) (fOpsQ P T ops l (putS n tm hp o.dst (.d (.lit undef))) K) False := rfl

theorem fOpsQ_eq (ops : Array Oper) : ∀ (l : List Oper) (s : St) (K : St → Prop), fOpsQ P T ops l s K = exOpsQ P T ops l s K
  | [], s, K => rfl
  | o :: l, ⟨n, tm, hp⟩, K => by
    cases hg : o.guard with
    | none =>
      simp only [fOpsQ_cons, exOpsQ, hg]
      rw [fOpQ_eq]
      exact congrArg _ (funext fun r => by rw [force_eq, fOpsQ_eq ops l, putS_eq])
    | some p =>
      obtain ⟨j, want⟩ := p
      simp only [fOpsQ_cons, exOpsQ, hg, get_mk]
      cases hgv : guardV ops (fun t => getT t tm) j with
      | none =>
        dsimp only
        congr 1
        rw [fOpsQ_eq ops l, putS_eq]
      | some q =>
        obtain ⟨t, b⟩ := q
        dsimp only
        congr 1
        · rw [putS_eq]
          have hh : (St.put ⟨n, tm, hp⟩ (some t) (.d (.lit (.bool want)))).hp = hp := St.hp_put _ _ _
          generalize hs : St.put ⟨n, tm, hp⟩ (some t) (.d (.lit (.bool want))) = s1 at hh
          obtain ⟨n1, tm1, hp1⟩ := s1
          dsimp only at hh
          subst hh
          dsimp only
          rw [fOpQ_eq]
          exact congrArg _ (funext fun r => by rw [force_eq, fOpsQ_eq ops l, putS_eq])
        · rw [putS_eq]
          have hh : (St.put ⟨n, tm, hp⟩ (some t) (.d (.lit (.bool (!want))))).hp = hp := St.hp_put _ _ _
          generalize hs : St.put ⟨n, tm, hp⟩ (some t) (.d (.lit (.bool (!want)))) = s1 at hh
          obtain ⟨n1, tm1, hp1⟩ := s1
          dsimp only at hh
          subst hh
          rw [fOpsQ_eq ops l, putS_eq, hs]

def fxCond (b : Option Bool) (A B : Prop) : Prop := match b with
  | some t => bsel t A B
  | none => False
def fxRegion (P : Program) (T : Tab) (ops : Array Oper) (draw : Bool) (s : St) (Q : Exit → St → Prop) : Prop := match draw with
  | false => fOps P T ops ops.toList s (Q .normal)
  | true => okDraw ops = true ∧ fOpsQ P T ops ops.toList s (Q .normal)
noncomputable def fx (P : Program) (T : Tab) (c : Code) : St → (Exit → St → Prop) → Prop :=
  @Code.rec (fun _ => St → (Exit → St → Prop) → Prop)
    (fun s Q => Q .normal s)
    (fun _ ops draw s Q => fxRegion P T ops draw s Q)
    (fun _ _ iha ihb s Q => iha s (thenS (fun s' => ihb s' Q) Q))
    (fun c _ _ iha ihb s Q => fxCond (boolOf (s.ev c)) (iha s Q) (ihb s Q))
    (fun id _ ih s Q => ih s (blockS id Q))
    (fun c _ s Q => Raw (SExec P (.loop c) s Q))
    (fun f ps a b _ _ s Q => Raw (SExec P (.rangeFunc f ps a b) s Q))
    (fun id s Q => Q (.exit id) s)
    (fun c _ s Q => Raw (SExec P (.scope c) s Q))
    (fun _ s Q => Q .normal s)
    (fun l s Q => Q (.goto l) s)
    (fun s Q => Q .ret s)
    (fun w s Q => Raw (SExec P (.refuse w) s Q)) c

theorem fx_eq : ∀ (c : Code) (s : St) (Q : Exit → St → Prop), fx P T c s Q = ex P T c s Q := by
  intro c
  induction c with
  | seq a b iha ihb =>
    intro s Q
    show fx P T a s (thenS (fun s' => fx P T b s' Q) Q) = ex P T a s (thenS (fun s' => ex P T b s' Q) Q)
    rw [iha]
    congr 1
    funext e s'
    cases e <;> simp only [thenS]
    exact ihb s' Q
  | block id c ih => intro s Q; exact ih s _
  | cond c a b iha ihb =>
    intro s Q
    show fxCond (boolOf (s.ev c)) (fx P T a s Q) (fx P T b s Q) = _
    simp only [ex]
    cases boolOf (s.ev c) with
    | none => rfl
    | some t => simp only [fxCond]; rw [iha, ihb]
  | region id ops draw =>
    intro s Q
    cases draw
    · exact fOps_eq ops _ s _
    · show (okDraw ops = true ∧ fOpsQ P T ops ops.toList s (Q .normal)) = _
      simp only [ex]
      rw [fOpsQ_eq]
  | loop c _ => intro s Q; exact propext ⟨fun h => h.out, fun h => ⟨h⟩⟩
  | rangeFunc f ps a b _ _ => intro s Q; exact propext ⟨fun h => h.out, fun h => ⟨h⟩⟩
  | scope c _ => intro s Q; exact propext ⟨fun h => h.out, fun h => ⟨h⟩⟩
  | refuse w => intro s Q; exact propext ⟨fun h => h.out, fun h => ⟨h⟩⟩
  | _ => intro s Q; rfl

theorem fx_sound (hT : TabOk P T) (hm : P.follows .mixedOrders = true) {c : Code} {s : St} {Q : Exit → St → Prop} (h : fx P T c s Q) : SExec P c s Q :=
  ex_sound hT hm (by rw [← fx_eq]; exact h)

/-! ### Results -/
def resOne (T : Tab) (s : St) : ResultVar → Option V
  | .tmp t => some (s.get t)
  | .cell t ty => match T ty with
    | some i => loadA i.k.agg i.size s.hp (s.get t)
    | none => none
def resAll (T : Tab) (s : St) : List ResultVar → Option (List V)
  | [] => some []
  | x :: l => match resOne T s x, resAll T s l with
    | some r, some rs => some (r :: rs)
    | _, _ => none
theorem resAll_sound (hT : TabOk P T) {s : St} : ∀ {l : List ResultVar} {rs : List V}, resAll T s l = some rs → ResL P s l rs
  | [], rs, h => by simp [resAll] at h; subst h; exact .nil
  | x :: l, rs, h => by
    simp only [resAll] at h
    split at h
    · rename_i r rs' h1 h2
      cases h
      refine .cons ?_ (resAll_sound hT h2)
      cases x with
      | tmp t => simp [resOne] at h1; subst h1; exact .tmp t
      | cell t ty =>
        simp only [resOne] at h1
        split at h1
        · rename_i i hi; exact .cell (ti_is (hT _ _ hi)) h1
        · cases h1
    · cases h

mutual
theorem pure_lt (n : Nat) : ∀ x : V, x.pure = true → x.lt n = true
  | .d _, _ => rfl
  | .gs _ _, h => by simp [V.pure] at h
  | .bx _ _, h => by simp [V.pure] at h
  | .rp _, _ => rfl
  | .xs _, _ => rfl
  | .hs _ _ _, h => by simp [V.pure] at h
  | .agg cs, h => by simp [V.pure] at h; simp [V.lt]; exact pures_lt n cs h
  | .fn _ a c, h => by simp [V.pure] at h; simp [V.lt]; exact ⟨pures_lt n a h.1, pures_lt n c h.2⟩
  | .tup cs, h => by simp [V.pure] at h; simp [V.lt]; exact pures_lt n cs h
  | .any, _ => rfl
theorem pures_lt (n : Nat) : ∀ l : List V, pures l = true → lts n l = true
  | [], _ => rfl
  | x :: l, h => by simp [pures] at h; simp [lts]; exact ⟨pure_lt n x h.1, pures_lt n l h.2⟩
end

inductive RetF (P : Program) (T : Tab) (fn : Func) (m : Nat) (Q : V → List O → Prop) : Exit → St → Prop where
  | normal {s : St} (h : RetD P fn m Q .normal s) : RetF P T fn m Q .normal s
  | ret {s : St} (h : RetD P fn m Q .ret s) : RetF P T fn m Q .ret s

theorem RetF.toD {fn : Func} {m : Nat} {Q : V → List O → Prop} {e : Exit} {s : St} (h : RetF P T fn m Q e s) : RetD P fn m Q e s := by cases h <;> assumption

/-- The end of a function of data. -/
theorem retP (hT : TabOk P T) {fn : Func} {s : St} {rs : List V} {r : V} (h : resAll T s fn.results.toList = some rs) (e : EntV (tupV rs) r) (hr : r.pure = true) : RetF P T fn 0 (fun r' _ => r' = r) .ret s :=
  .ret ⟨rs, resAll_sound hT h, r, [], s.hp, e, rfl, Nat.le_refl _, rfl, pure_lt _ _ hr, rfl⟩
theorem retN (hT : TabOk P T) {fn : Func} {s : St} {rs : List V} {r : V} (h : resAll T s fn.results.toList = some rs) (e : EntV (tupV rs) r) (hr : r.pure = true) : RetF P T fn 0 (fun r' _ => r' = r) .normal s :=
  .normal ⟨rs, resAll_sound hT h, r, [], s.hp, e, rfl, Nat.le_refl _, rfl, pure_lt _ _ hr, rfl⟩

theorem PCall.of_fx (hT : TabOk P T) (hm : P.follows .mixedOrders = true) {k : FuncId} {fn : Func} {c : Code} {args : List V} {r : V} (hf : P.funcs[k]? = some fn) (hb : fn.body = some c) (hn : (fn.name == "runtime.NumGoroutine") = false)
    (hr : r.pure = true) (ha : pures args = true) (h : fx P T c (initSt fn.ntmps args []) (RetF P T fn 0 (fun r' _ => r' = r))) : PCall P k args r :=
  ⟨hr, ha, SCall.of_execD hf hb hn ((fx_sound hT hm h).mono fun e s hs => hs.toD)⟩

end
end Go.Ab
namespace Go.Ab
section
variable {P : Program} {T : Tab}
theorem retI (hT : TabOk P T) {fn : Func} {s : St} {k : IntKind} {n m : Int} (h : resAll T s fn.results.toList = some [.d (.lit (.int k n))]) (e : n = m) : RetF P T fn 0 (fun r' _ => r' = .d (.lit (.int k m))) .ret s :=
  retP hT h (.of_eq (by rw [e]; rfl)) rfl
theorem retB (hT : TabOk P T) {fn : Func} {s : St} {n m : Bool} (h : resAll T s fn.results.toList = some [.d (.lit (.bool n))]) (e : n = m) : RetF P T fn 0 (fun r' _ => r' = .d (.lit (.bool m))) .ret s :=
  retP hT h (.of_eq (by rw [e]; rfl)) rfl

/-- A loop that counts. -/
theorem SExec.loop_n {c : Code} {s : St} {Q : Exit → St → Prop} (n : Nat) (σ : Nat → St) (hlen : ∀ k, s.hp.length ≤ (σ k).hp.length) (h0 : s.subD (σ 0))
    (hr : ∀ k, k ≤ n → SExec P c (σ k) (thenS (fun s' => k < n ∧ s'.subD (σ (k + 1))) Q)) : SExec P (.loop c) s Q :=
  SExec.loop_d (ι := { k : Nat // k ≤ n }) (fun i => σ i.1) (fun i => n - i.1) ⟨0, Nat.zero_le _⟩ (fun i => hlen i.1) h0 fun i =>
    (hr i.1 i.2).mono (thenS_mono fun s' ⟨h1, h2⟩ => ⟨⟨i.1 + 1, h1⟩, by show n - (i.1 + 1) < n - i.1; omega, h2⟩)

/-- A loop that goes on while something gets less. -/
theorem SExec.loop_i {ι : Type} {c : Code} {s : St} {Q : Exit → St → Prop} (σ : ι → St) (ok : ι → Prop) (μ : ι → Nat) (i : ι) (hi : ok i) (hlen : ∀ i, s.hp.length ≤ (σ i).hp.length) (h0 : s.subD (σ i))
    (hr : ∀ i, ok i → SExec P c (σ i) (thenS (fun s' => ∃ j, ok j ∧ μ j < μ i ∧ s'.subD (σ j)) Q)) : SExec P (.loop c) s Q :=
  SExec.loop_d (ι := { i : ι // ok i }) (fun i => σ i.1) (fun i => μ i.1) ⟨i, hi⟩ (fun i => hlen i.1) h0 fun i =>
    (hr i.1 i.2).mono (thenS_mono fun s' ⟨j, h1, h2, h3⟩ => ⟨⟨j, h1⟩, h2, h3⟩)
end
end Go.Ab
