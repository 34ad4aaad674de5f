import Derived.Test.YtjggngbfmjneiaaDoorAbK
set_option linter.unusedVariables false
set_option linter.unusedSimpArgs false
namespace Go.Ab
section
variable {P : Program}

/-! ### Regions that draw their order: each operation reads, or calls what leaves everything as it is -/
def uses (o : Oper) (t : Nat) : Bool := o.op.operands.toList.any fun | .tmp u => u == t | _ => false
def mask (o : Oper) (g : Nat → V) : Nat → V := fun t => if uses o t then g t else .any

theorem uses_mem {o : Oper} {x : Operand} {t : Nat} (hx : x ∈ o.op.operands) (e : x = .tmp t) : uses o t = true := by
  subst e
  exact List.any_eq_true.2 ⟨_, by simpa using hx, by simp⟩

/-- An operation that leaves the call's own things as they are: by itself, or a call. -/
def Yc (P : Program) (o : Oper) (g : Nat → V) (H : List O) (r : V) : Prop :=
  Yl P o g H r H ∨ ∃ f args ats k first cap, o.op = .call { callee := .value f, args := args, argTypes := ats } ∧ evO g f = .fn (.func k) first cap ∧ HCall P k (first ++ args.toList.map (evO g) ++ cap) H r

theorem Yc.wp {o : Oper} {g : Nat → V} {n : Nat} {H : List O} {r : V} (h : Yc P o g H r) {F : Mem} {M : Pls} {w : World} {a : Act} (rel : RelT F M a w g n H) {next : Act → World → Prop} {Q : Exit → Act → World → Prop}
    (hn : ∀ v w' F' M', Rep F' M' v r → Inv F' M' w' H → Ext F M w F' M' w' → next (a.put o.dst v) w') : o.wp P a w next Q := by
  have key : SOp P o ⟨n, [], H⟩ (fun _ => True) ∨ True := .inr trivial
  rcases h with h | ⟨f, args, ats, k, first, cap, ho, hf, hc⟩
  · obtain ⟨v, w', F', M', hrun, hv, hi, x⟩ := h F M w a.eval rel.inv rel.ev
    unfold Oper.wp
    rcases hrun with hrun | ⟨hrun, rfl⟩
    · rw [hrun]; exact hn _ _ _ _ hv hi x
    · rw [hrun]; exact hn _ _ _ _ hv hi x
  · have hv := rel.ev f
    rw [hf] at hv
    generalize hfv : a.eval f = fv at hv
    cases hv with
    | fn _ A C _ _ hA hC hrA hrC =>
      have hrun : (execOp a.eval o).run P w = .ok (.enter k (A ++ args.map a.eval ++ C)) w := by
        have := hc.1.1 w (A ++ args.map a.eval ++ C)
        simp [execOp, ho, resolve, hfv, Deferred.ofValue, invoke] at *
        exact this
      unfold Oper.wp
      rw [hrun]
      show Calls P k _ w _
      have hreps : Reps F M (A.toList ++ (args.map a.eval).toList ++ C.toList) (first ++ args.toList.map (evO g) ++ cap) := by
        refine reps_append (reps_append ⟨by simpa using hA, fun j hj => ?_⟩ ⟨by simp, fun j hj => ?_⟩) ⟨by simpa using hC, fun j hj => ?_⟩
        · simpa [List.getD_eq_getElem?_getD, Array.getD_eq_getD_getElem?] using hrA j hj
        · simp at hj
          simp [List.getD_eq_getElem?_getD, hj]
          exact rel.ev _
        · simpa [List.getD_eq_getElem?_getD, Array.getD_eq_getD_getElem?] using hrC j hj
      have hcc := hc.1.2 F M w _ rel.inv hreps
      have e : (A.toList ++ (args.map a.eval).toList ++ C.toList).toArray = A ++ args.map a.eval ++ C := by
        apply Array.ext'; simp
      rw [e] at hcc
      refine hcc.mono ?_
      rintro e w' ⟨v, r', H', F', M', rfl, ⟨rfl, rfl⟩, hvr, hi, x⟩
      exact hn _ _ F' M' hvr hi x

inductive QS (P : Program) (ops : Array Oper) (g : Nat → V) (H : List O) (o : Oper) (r : V) : Prop where
  | plain (hg : o.guard = none) (h : Yc P o (mask o g) H r)
  | yes {j t : Nat} {want : Bool} (hg : o.guard = some (j, want)) (ht : (ops[j]?).bind (·.dst) = some t) (hb : g t = .d (.lit (.bool want))) (h : Yc P o (mask o g) H r)
  | no {j t : Nat} {want : Bool} (hg : o.guard = some (j, want)) (ht : (ops[j]?).bind (·.dst) = some t) (hb : g t = .d (.lit (.bool (!want)))) (h : r = .d (.lit undef))
  | skip {j t : Nat} {want : Bool} {c : Array Value} (hg : o.guard = some (j, want)) (ht : (ops[j]?).bind (·.dst) = some t) (hb : g t = .d (.lit (.tuple c))) (h : r = .d (.lit undef))

theorem mask_congr {o : Oper} {g g' : Nat → V} (h : ∀ t, uses o t = true → g t = g' t) : mask o g = mask o g' := by
  funext t
  unfold mask
  split
  · rename_i hu; exact h t hu
  · rfl

theorem uses_looks {ops : Array Oper} {o : Oper} {t : Nat} (h : uses o t = true) : t ∈ o.looksAt ops := by
  unfold uses at h
  obtain ⟨x, hx, hxt⟩ := List.any_eq_true.1 h
  unfold Oper.looksAt
  refine List.mem_append_left _ (List.mem_filterMap.2 ⟨x, hx, ?_⟩)
  cases x <;> simp at hxt ⊢
  exact hxt

theorem QS.congr {ops : Array Oper} {g g' : Nat → V} {H : List O} {o : Oper} {r : V} (h : QS P ops g H o r) (e : ∀ t, t ∈ o.looksAt ops → g t = g' t) : QS P ops g' H o r := by
  have em : mask o g = mask o g' := mask_congr fun t ht => e t (uses_looks ht)
  have eg : ∀ {j t : Nat} {want : Bool}, o.guard = some (j, want) → (ops[j]?).bind (·.dst) = some t → g t = g' t := fun hg ht =>
    e _ (by unfold Oper.looksAt; rw [hg]; exact List.mem_append_right _ (by simp [ht]))
  cases h with
  | plain hg h => exact .plain hg (em ▸ h)
  | yes hg ht hb h => exact .yes hg ht (eg hg ht ▸ hb) (em ▸ h)
  | no hg ht hb h => exact .no hg ht (eg hg ht ▸ hb) h
  | skip hg ht hb h => exact .skip hg ht (eg hg ht ▸ hb) h

theorem wanted_g {ops : Array Oper} {o : Oper} {g : Nat → V} {n : Nat} {H : List O} {j t : Nat} {want b : Bool} {F : Mem} {M : Pls} {a : Act} {w : World} (hg : o.guard = some (j, want)) (ht : (ops[j]?).bind (·.dst) = some t)
    (hb : g t = .d (.lit (.bool b))) (rel : RelT F M a w g n H) : Region.wanted o (yielded ops a.tmps) = (b == want) := by
  have hv := rel.tmps t
  rw [hb] at hv
  have hv := hv.lit_inv
  have hlt : t < a.tmps.size := by
    rcases Nat.lt_or_ge t a.tmps.size with h | h
    · exact h
    · rw [Array.getD_eq_getD_getElem?, Array.getElem?_eq_none h] at hv; cases hv
  simp [Array.getD_eq_getD_getElem?, hlt] at hv
  simp [Region.wanted, hg, yielded, ht, hlt, hv]

theorem skipped_g {ops : Array Oper} {o : Oper} {g : Nat → V} {n : Nat} {H : List O} {j t : Nat} {want : Bool} {c : Array Value} {F : Mem} {M : Pls} {a : Act} {w : World} (hg : o.guard = some (j, want)) (ht : (ops[j]?).bind (·.dst) = some t)
    (hb : g t = .d (.lit (.tuple c))) (rel : RelT F M a w g n H) : Region.wanted o (yielded ops a.tmps) = false := by
  have hv := rel.tmps t
  rw [hb] at hv
  have hv := hv.lit_inv
  by_cases hlt : t < a.tmps.size
  · simp [Array.getD_eq_getD_getElem?, hlt] at hv
    simp [Region.wanted, hg, yielded, ht, hlt, hv]
  · simp [Region.wanted, hg, yielded, ht, hlt]

theorem RelT.masked {F : Mem} {M : Pls} {a : Act} {w : World} {g : Nat → V} {n : Nat} {H : List O} (rel : RelT F M a w g n H) (o : Oper) : RelT F M a w (mask o g) n H :=
  ⟨rel.defers, rel.size, rel.inv, fun t => by unfold mask; split; exact rel.tmps t; exact .any _⟩

/-- One operation comes up. -/
theorem QS.wpOp {ops : Array Oper} {g : Nat → V} {n : Nat} {H : List O} {o : Oper} {r : V} {i : Nat} (hi : ops[i]? = some o) (h : QS P ops g H o r) {F : Mem} {M : Pls} {w : World} {a : Act} (rel : RelT F M a w g n H) {K : Act → World → Prop} {Q : Exit → Act → World → Prop}
    (hk : ∀ a' w' F' M', RelT F' M' a' w' (putG g n o.dst r) n H → Ext F M w F' M' w' → K a' w') : wpOp P ops Q i K a w := by
  have go : Yc P o (mask o g) H r → o.wp P a w K Q := fun hy =>
    hy.wp (rel.masked o) fun v w' F' M' hv hinv x => hk _ w' F' M' (rel.put x.fle x.mle hinv o.dst hv) x
  unfold Go.wpOp
  simp only [hi]
  cases h with
  | plain hg h => rw [if_pos (by simp [Region.wanted, hg])]; exact .inl (go h)
  | yes hg ht hb h => rw [if_pos (by rw [wanted_g hg ht hb rel]; simp)]; exact .inl (go h)
  | @no j t want hg ht hb h =>
    subst h
    rw [if_neg (by rw [wanted_g hg ht hb rel]; cases want <;> simp)]
    exact hk _ w F M (rel.put (.refl _) (.refl _) rel.inv o.dst (Rep.lit undef)) (.refl _ _ _)
  | @skip j t want c hg ht hb h =>
    subst h
    rw [if_neg (by rw [skipped_g hg ht hb rel]; simp)]
    exact hk _ w F M (rel.put (.refl _) (.refl _) rel.inv o.dst (Rep.lit undef)) (.refl _ _ _)

/-! What has come up so far. -/
def gF (n : Nat) (L : Nat → Bool) : Nat → List (Oper × V) → (Nat → V) → Nat → V
  | _, [], g => g
  | k, z :: zs, g => gF n L (k + 1) zs (if L k then putG g n z.1.dst z.2 else g)

theorem putG_ne {g : Nat → V} {n : Nat} {d : Option Tmp} {v : V} {t : Nat} (h : d ≠ some t) : putG g n d v t = g t := by
  cases d with
  | none => rfl
  | some d =>
    have hne : t ≠ d := fun e => h (by rw [e])
    unfold putG; dsimp only
    split
    · exact if_neg hne
    · rfl

theorem putG_congr {g g' : Nat → V} {n : Nat} {d : Option Tmp} {v : V} {t : Nat} (h : g t = g' t) : putG g n d v t = putG g' n d v t := by
  cases d with
  | none => exact h
  | some d =>
    unfold putG; dsimp only
    by_cases hd : d < n
    · rw [if_pos hd, if_pos hd]
      by_cases ht : t = d
      · show (if t = d then v else g t) = (if t = d then v else g' t)
        rw [if_pos ht, if_pos ht]
      · show (if t = d then v else g t) = (if t = d then v else g' t)
        rw [if_neg ht, if_neg ht]; exact h
    · rw [if_neg hd, if_neg hd]; exact h

theorem gF_congr {n : Nat} {L L' : Nat → Bool} {t : Nat} : ∀ (zs : List (Oper × V)) (k : Nat) (g g' : Nat → V), g t = g' t →
    (∀ i z, zs[i]? = some z → z.1.dst = some t → L (k + i) = L' (k + i)) → gF n L k zs g t = gF n L' k zs g' t
  | [], _, _, _, h, _ => h
  | z :: zs, k, g, g', h, hl => by
    simp only [gF]
    refine gF_congr zs (k + 1) _ _ ?_ (fun i z' hz hd => by have := hl (i + 1) z' (by simpa using hz) hd; rwa [show k + (i + 1) = k + 1 + i by omega] at this)
    by_cases hd : z.1.dst = some t
    · have := hl 0 z (by simp) hd
      rw [Nat.add_zero] at this
      rw [this]
      split
      · exact putG_congr h
      · exact h
    · have e : ∀ (b : Bool) (g : Nat → V), (if b then putG g n z.1.dst z.2 else g) t = g t := fun b g => by cases b <;> simp [putG_ne hd]
      rw [e, e]; exact h

theorem gF_none {n : Nat} {L : Nat → Bool} : ∀ (zs : List (Oper × V)) (k : Nat) (g : Nat → V), (∀ m, k ≤ m → L m = false) → gF n L k zs g = g
  | [], _, _, _ => rfl
  | z :: zs, k, g, h => by
    simp only [gF, h k (Nat.le_refl _)]
    exact gF_none zs (k + 1) _ fun m hm => h m (by omega)

/-- One more: as if it had been put last. -/
theorem gF_set {n : Nat} {L : Nat → Bool} {j : Nat} {zj : Oper × V} : ∀ (zs : List (Oper × V)) (k : Nat) (g : Nat → V), k ≤ j → zs[j - k]? = some zj → L j = false →
    (∀ i z, zs[i]? = some z → k + i ≠ j → z.1.dst = zj.1.dst → z.1.dst = none) →
    gF n (fun m => if m = j then true else L m) k zs g = putG (gF n L k zs g) n zj.1.dst zj.2
  | [], k, g, hk, hj, _, _ => by simp at hj
  | z :: zs, k, g, hk, hj, hL, hu => by
    simp only [gF]
    by_cases hkj : k = j
    · subst hkj
      simp at hj
      subst hj
      rw [if_pos (if_pos rfl), hL]
      simp only [Bool.false_eq_true, if_false]
      funext t
      by_cases hd : z.1.dst = some t
      · have e1 : gF n (fun m => if m = k then true else L m) (k + 1) zs (putG g n z.1.dst z.2) t = putG g n z.1.dst z.2 t := by
          have : gF n (fun m => if m = k then true else L m) (k + 1) zs (putG g n z.1.dst z.2) t = gF n (fun _ => false) (k + 1) zs (putG g n z.1.dst z.2) t :=
            gF_congr zs (k + 1) _ _ rfl fun i z' hz hd' => by
              have := hu (i + 1) z' (by simpa using hz) (by omega) (by rw [hd', hd])
              rw [hd'] at this; cases this
          rw [this, gF_none _ _ _ (fun _ _ => rfl)]
        have e2 : gF n L (k + 1) zs g t = g t := by
          have : gF n L (k + 1) zs g t = gF n (fun _ => false) (k + 1) zs g t :=
            gF_congr zs (k + 1) _ _ rfl fun i z' hz hd' => by
              have := hu (i + 1) z' (by simpa using hz) (by omega) (by rw [hd', hd])
              rw [hd'] at this; cases this
          rw [this, gF_none _ _ _ (fun _ _ => rfl)]
        rw [e1]
        exact (putG_congr e2).symm
      · rw [putG_ne hd]
        exact gF_congr zs (k + 1) _ _ (putG_ne hd) fun i z' hz hd' => by rw [if_neg (by omega)]
    · simp only [hkj, if_false]
      refine gF_set zs (k + 1) _ (by omega) ?_ hL (fun i z' hz hne => hu (i + 1) z' (by simpa using hz) (by omega))
      rw [show j - k = (j - (k + 1)) + 1 by omega] at hj
      simpa using hj

theorem gF_all {n : Nat} {L : Nat → Bool} : ∀ (zs : List (Oper × V)) (k : Nat) (g : Nat → V), (∀ m, k ≤ m → m < k + zs.length → L m = true) → gF n L k zs g = gF n (fun _ => true) k zs g
  | [], _, _, _ => rfl
  | z :: zs, k, g, h => by
    simp only [gF, h k (Nat.le_refl _) (by simp)]
    exact gF_all zs (k + 1) _ fun m h1 h2 => h m (by omega) (by simp; omega)

/-- What is asked of a region's edges. -/
def okDraw (ops : Array Oper) : Bool :=
  (List.range ops.size).all fun j => match ops[j]? with
    | none => false
    | some oj =>
      (oj.after.toList.all fun e => !Region.binds .any e || decide (e.on < j)) &&
      (List.range ops.size).all fun i => i == j || match ops[i]? with
        | none => false
        | some oi => match oi.dst with
          | none => true
          | some t => (oj.dst != some t) && (!((oj.looksAt ops).contains t) ||
              (if i < j then oj.after.toList.any fun e => Region.binds .any e && e.on == i else oi.after.toList.any fun e => Region.binds .any e && e.on == j))

theorem okDraw_spec {ops : Array Oper} (h : okDraw ops = true) {j : Nat} {oj : Oper} (hj : ops[j]? = some oj) :
    (∀ e ∈ oj.after, Region.binds .any e = true → e.on < j) ∧ ∀ i oi t, ops[i]? = some oi → i ≠ j → oi.dst = some t → oj.dst ≠ some t ∧ (t ∈ oj.looksAt ops →
      (i < j ∧ ∃ e ∈ oj.after, Region.binds .any e = true ∧ e.on = i) ∨ (j < i ∧ ∃ e ∈ oi.after, Region.binds .any e = true ∧ e.on = j)) := by
  have hlt : j < ops.size := (Array.getElem?_eq_some_iff.1 hj).1
  have h1 := List.all_eq_true.1 h j (List.mem_range.2 hlt)
  simp only [hj, Bool.and_eq_true] at h1
  obtain ⟨h2, h3⟩ := h1
  refine ⟨fun e he hb => ?_, fun i oi t hi hne hd => ?_⟩
  · have := List.all_eq_true.1 h2 e (by simpa using he)
    simpa [hb] using this
  · have hlti : i < ops.size := (Array.getElem?_eq_some_iff.1 hi).1
    have h4 := List.all_eq_true.1 h3 i (List.mem_range.2 hlti)
    simp only [hi, hd, Bool.or_eq_true, Bool.and_eq_true, beq_iff_eq, hne, false_or, bne_iff_ne, ne_eq, Bool.not_eq_true'] at h4
    refine ⟨h4.1, fun hl => ?_⟩
    rcases h4.2 with h5 | h5
    · have : ((oj.looksAt ops).contains t) = true := by simpa using hl
      rw [this] at h5; cases h5
    · split at h5
      · rename_i hij
        obtain ⟨e, he, hb⟩ := List.any_eq_true.1 h5
        simp only [Bool.and_eq_true, beq_iff_eq] at hb
        exact .inl ⟨hij, e, by simpa using he, hb.1, hb.2⟩
      · rename_i hij
        obtain ⟨e, he, hb⟩ := List.any_eq_true.1 h5
        simp only [Bool.and_eq_true, beq_iff_eq] at hb
        exact .inr ⟨by omega, e, by simpa using he, hb.1, hb.2⟩

theorem draw_core {ops : Array Oper} {zs : List (Oper × V)} {n : Nat} {H : List O} {g0 : Nat → V} {Q : Exit → Act → World → Prop} (hok : okDraw ops = true) (hz : zs.map (·.1) = ops.toList)
    (hq : ∀ i z, zs[i]? = some z → QS P ops (gF n (fun m => decide (m < i)) 0 zs g0) H z.1 z.2) :
    ∀ (fuel : Nat) (listed : Array Bool) (F : Mem) (M : Pls) (a : Act) (w : World), listed.size = ops.size → ops.size ≤ fuel + (listed.toList.filter (· = true)).length →
      (∀ j oj, ops[j]? = some oj → listed.getD j false = true → ∀ e ∈ oj.after, Region.binds .any e = true → listed.getD e.on false = true) →
      RelT F M a w (gF n (fun i => listed.getD i false) 0 zs g0) n H →
      (∀ F' M' a' w', RelT F' M' a' w' (gF n (fun _ => true) 0 zs g0) n H → Ext F M w F' M' w' → Q .normal a' w') → wpAny P .any ops Q fuel listed a w := by
  have hlen : zs.length = ops.size := by have := congrArg List.length hz; simpa using this
  have hzi : ∀ (i : Nat) (o : Oper), ops[i]? = some o → ∃ r : V, zs[i]? = some (o, r) := fun i o ho => by
    have h1 : (zs.map (·.1))[i]? = some o := by rw [hz]; simpa using ho
    rw [List.getElem?_map] at h1
    cases hzz : zs[i]? with
    | none => simp [hzz] at h1
    | some z => simp [hzz] at h1; exact ⟨z.2, by rw [← h1]⟩
  have hzo : ∀ (i : Nat) (z : Oper × V), zs[i]? = some z → ops[i]? = some z.1 := fun i z h => by
    have h1 : (zs.map (·.1))[i]? = some z.1 := by rw [List.getElem?_map, h]; rfl
    rw [hz] at h1; simpa using h1
  have hdone : ∀ listed : Array Bool, listed.size = ops.size → (∀ j oj, ops[j]? = some oj → listed.getD j false = true → ∀ e ∈ oj.after, Region.binds .any e = true → listed.getD e.on false = true) → Region.ready .any ops listed = [] →
      ∀ j, j < ops.size → listed.getD j false = true := by
    intro listed hs hc hr j
    induction j using Nat.strongRecOn with
    | _ j ih =>
      intro hj
      cases hl : listed.getD j false with
      | true => rfl
      | false =>
        exfalso
        have : j ∈ Region.ready .any ops listed := by
          refine mem_ready.2 ⟨?_, ops[j], by simp [hj], fun e he hb => ?_⟩
          · have hj' : j < listed.size := by omega
            simp [hj'] at hl ⊢; exact hl
          · have hlt := (okDraw_spec hok (j := j) (oj := ops[j]) (by simp [hj])).1 e he hb
            exact ih e.on hlt (by omega)
        rw [hr] at this
        cases this
  have hfin : ∀ (listed : Array Bool) (F : Mem) (M : Pls) (a : Act) (w : World), listed.size = ops.size → (∀ j oj, ops[j]? = some oj → listed.getD j false = true → ∀ e ∈ oj.after, Region.binds .any e = true → listed.getD e.on false = true) →
      RelT F M a w (gF n (fun i => listed.getD i false) 0 zs g0) n H →
      (∀ F' M' a' w', RelT F' M' a' w' (gF n (fun _ => true) 0 zs g0) n H → Ext F M w F' M' w' → Q .normal a' w') → Region.ready .any ops listed = [] → Q .normal a w := by
    intro listed F M a w hs hc rel hQ hr
    refine hQ F M a w ?_ (.refl _ _ _)
    rw [gF_all zs 0 g0 (fun m _ h2 => hdone listed hs hc hr m (by omega))] at rel
    exact rel
  intro fuel
  induction fuel with
  | zero =>
    intro listed F M a w hs hcount hc rel hQ
    have hall : ∀ j, j < listed.size → listed.getD j false = true := by
      intro j hj
      have h1 : (listed.toList.filter (· = true)).length = listed.toList.length := by
        have := List.length_filter_le (· = true) listed.toList
        simp at this ⊢ hcount
        omega
      have h2 := List.length_filter_eq_length_iff.1 h1 (listed[j]'hj) (by simp)
      simpa [hj] using h2
    have hr : Region.ready .any ops listed = [] := by
      refine List.eq_nil_iff_forall_not_mem.2 fun j hj => ?_
      obtain ⟨h0, o, ho, _⟩ := mem_ready.1 hj
      have hj' : j < listed.size := by rw [hs]; exact (Array.getElem?_eq_some_iff.1 ho).1
      have := hall j hj'
      simp [hj'] at h0 this
      rw [h0] at this; cases this
    exact ⟨hr, hfin listed F M a w hs hc rel hQ hr⟩
  | succ fuel ih =>
    intro listed F M a w hs hcount hc rel hQ
    refine ⟨fun hr => hfin listed F M a w hs hc rel hQ hr, fun j hj => ?_⟩
    obtain ⟨h0, o, ho, hdeps⟩ := mem_ready.1 hj
    have hjs : j < listed.size := by rw [hs]; exact (Array.getElem?_eq_some_iff.1 ho).1
    have h0' : listed.getD j false = false := by simp [hjs] at h0 ⊢; exact h0
    obtain ⟨r, hzj⟩ := hzi j o ho
    have hqs := hq j _ hzj
    obtain ⟨_, hspec⟩ := okDraw_spec hok ho
    have hqs' : QS P ops (gF n (fun i => listed.getD i false) 0 zs g0) H o r := by
      refine hqs.congr fun t ht => ?_
      refine gF_congr zs 0 g0 g0 rfl fun i z hz' hd => ?_
      rw [Nat.zero_add]
      have hoi := hzo i z hz'
      by_cases hij : i = j
      · subst hij; rw [h0']; simp
      · rcases (hspec i z.1 t hoi hij hd).2 ht with ⟨h1, e, he, hb, hon⟩ | ⟨h1, e, he, hb, hon⟩
        · rw [← hon, hdeps e he hb]; simp; omega
        · have : listed.getD i false = false := by
            cases hl : listed.getD i false with
            | false => rfl
            | true =>
              have := hc i z.1 hoi hl e he hb
              rw [hon, h0'] at this; cases this
          rw [this]; simp; omega
    refine hqs'.wpOp ho rel fun a' w' F' M' rel' x => ?_
    have hg : ∀ i, (listed.setIfInBounds j true).getD i false = if i = j then true else listed.getD i false := by
      intro i
      by_cases hij : i = j
      · subst hij; simp [hjs]
      · rw [if_neg hij, getD_set_ne false (Ne.symm hij)]
    refine ih _ F' M' a' w' (by simpa using hs) ?_ ?_ ?_ (fun F'' M'' a'' w'' r' x' => hQ F'' M'' a'' w'' r' (x.trans x'))
    · have hcnt : ((listed.setIfInBounds j true).toList.filter (· = true)).length = (listed.toList.filter (· = true)).length + 1 := by
        have hl : listed.toList[j]'(by simpa using hjs) = false := by simp [hjs] at h0'; simpa using h0'
        rw [Array.toList_setIfInBounds]
        have hsplit := List.set_eq_take_append_cons_drop (l := listed.toList) (i := j) (a := true)
        rw [if_pos (by simpa using hjs)] at hsplit
        have horig : listed.toList = listed.toList.take j ++ false :: listed.toList.drop (j + 1) := by
          conv => lhs; rw [← List.take_append_drop j listed.toList]
          rw [List.drop_eq_getElem_cons (by simpa using hjs), hl]
        rw [hsplit]
        conv => rhs; rw [horig]
        simp only [List.filter_append, List.length_append, List.filter_cons]
        simp
        omega
      rw [hcnt]; omega
    · intro i oi hoi hl e he hb
      rw [hg] at hl ⊢
      by_cases hon : e.on = j
      · rw [if_pos hon]
      · rw [if_neg hon]
        by_cases hij : i = j
        · subst hij
          have : oi = o := Option.some.inj (hoi.symm.trans ho)
          subst this
          exact hdeps e he hb
        · rw [if_neg hij] at hl
          exact hc i oi hoi hl e he hb
    · have e : (fun i => (listed.setIfInBounds j true).getD i false) = (fun m => if m = j then true else listed.getD m false) := funext hg
      rw [e, gF_set zs 0 g0 (Nat.zero_le _) (by simpa using hzj) h0' ?_]
      · exact rel'
      · intro i z hz' hne hd
        cases hdz : z.1.dst with
        | none => rfl
        | some t =>
          exfalso
          rw [Nat.zero_add] at hne
          have := (hspec i z.1 t (hzo i z hz') hne hdz).1
          exact this (by rw [← hd]; exact hdz)

/-- The lexical run. -/
def QRun (P : Program) (ops : Array Oper) (n : Nat) (H : List O) : List (Oper × V) → (Nat → V) → Prop
  | [], _ => True
  | z :: zs, g => QS P ops g H z.1 z.2 ∧ QRun P ops n H zs (putG g n z.1.dst z.2)

theorem QRun.at {ops : Array Oper} {n : Nat} {H : List O} : ∀ (zs : List (Oper × V)) (k : Nat) (g : Nat → V), QRun P ops n H zs g → ∀ i z, zs[i]? = some z → QS P ops (gF n (fun m => decide (m < k + i)) k zs g) H z.1 z.2
  | [], _, _, _, i, z, h => by simp at h
  | z :: zs, k, g, hr, 0, z', h => by
    simp at h; subst h
    rw [Nat.add_zero, gF_none _ _ _ (fun m hm => by simp; omega)]
    exact hr.1
  | z :: zs, k, g, hr, i + 1, z', h => by
    have := QRun.at zs (k + 1) _ hr.2 i z' (by simpa using h)
    simp only [gF]
    simp only [show k < k + (i + 1) by omega, decide_true, if_true]
    rwa [show k + 1 + i = k + (i + 1) by omega] at this

theorem SExec.region_draw {id : Nat} {ops : Array Oper} {s : St} {Q : Exit → St → Prop} (hm : P.follows .mixedOrders = true) (hok : okDraw ops = true) (zs : List (Oper × V)) (hz : zs.map (·.1) = ops.toList)
    (hq : QRun P ops s.n s.hp zs s.get) (s' : St) (hn : s'.n = s.n) (hh : s'.hp = s.hp) (hg : ∀ t, EntV (gF s.n (fun _ => true) 0 zs s.get t) (s'.get t)) (h : Q .normal s') : SExec P (.region id ops true) s Q := by
  intro F M w a rel
  refine wp_region_any hm ?_
  have hdi : Inv F M { w with drawn := w.drawn + 1 } s.hp := ⟨rel.inv.cells, rel.inv.len, fun i o p a b => (rel.inv.objs i o p a b).mono (.refl _) (.refl _) (fun _ _ => rfl) (fun _ _ _ _ h => h), rel.inv.sep, rel.inv.inb, rel.inv.gnd⟩
  have hx : Ext F M w F M { w with drawn := w.drawn + 1 } := ⟨.refl _, .refl _, Nat.le_refl _, rfl, rfl, rfl, fun _ _ _ => rfl, fun a h h' => absurd h h', fun i p b h e => .inr ⟨i, p, h, e⟩⟩
  refine draw_core (P := P) hok hz (fun i z h => by simpa using QRun.at zs 0 s.get hq i z h) ops.size _ F M a _ (by simp) (by simp) ?_ ?_ ?_
  · intro j oj hj hl
    have hlt := (Array.getElem?_eq_some_iff.1 hj).1
    simp [hlt] at hl
  · rw [gF_none _ _ _ (fun m _ => by
      rcases Nat.lt_or_ge m ops.size with h' | h'
      · simp [h']
      · simp [h'])]
    exact ⟨rel.defers, rel.size, hdi, rel.tmps⟩
  · intro F' M' a' w' rel' x
    refine ⟨s', F', M', h, ⟨rel'.defers, rel'.size.trans hn.symm, hh ▸ rel'.inv, fun t => hg t F' M' _ (rel'.tmps t)⟩, hx.trans x⟩
end
end Go.Ab
