import Derived.Test.YtjggngbfmjneiaaDoorAbD
set_option linter.unusedVariables false
set_option linter.unusedSimpArgs false
namespace Go.Ab
section
variable {P : Program}

/-! ### New things of the call's own -/
theorem heap_push_old (w : World) (o : Obj) (k : Nat) (h : k < w.heap.size) : (w.alloc o).heap[k]? = w.heap[k]? := heap_alloc_old w o h

theorem F_old {F : Mem} {M : Pls} {w : World} {H : List O} (hi : Inv F M w H) {a : Addr} {v : Value} (h : F a = some v) : a.block < w.heap.size :=
  World.block_lt_of_cell? w a (hi.cells a v h)

theorem F_new {F : Mem} {M : Pls} {w : World} {H : List O} (hi : Inv F M w H) (o : Nat) (s : Option Nat) : F ⟨w.heap.size, o, s⟩ = none := by
  cases h : F ⟨w.heap.size, o, s⟩ with
  | none => rfl
  | some v => have := F_old hi h; simp at this

theorem cell_alloc (w : World) (o : Obj) {a : Addr} {v : Value} (h : w.cell? a = some v) : (w.alloc o).cell? a = some v := by
  rw [World.cell?_alloc_lt w o a (World.block_lt_of_cell? w a h)]; exact h

theorem ObjRep.mono {F F' : Mem} {M M' : Pls} {w w' : World} {o : O} {p : Pl} (h : ObjRep F M w o p) (hF : F.le F') (hM : Pls.le M M')
    (hb : ∀ b, p.blk = some b → w'.heap[b]? = w.heap[b]?) (hn : ∀ b, p.blk = some b → ∀ o s, F ⟨b, o, s⟩ = none → F' ⟨b, o, s⟩ = none) : ObjRep F' M' w' o p := by
  cases h with
  | row ty cells blk c hc hs hr h1 hF0 =>
    exact .row ty cells blk c (by rw [hb blk rfl]; exact hc) hs (fun j hj => (hr j hj).mono hF hM) h1 (fun o s => hn blk rfl o s (hF0 o s))
  | nil ty sz => exact .nil ty sz
  | tok ty sz n blk cap c hc hs hn' hcap hpre hF0 =>
    exact .tok ty sz n blk cap c (by rw [hb blk rfl]; exact hc) hs hn' hcap (fun k hk => hF _ _ (hpre k hk)) (fun o s ho => hn blk rfl o s (hF0 o s ho))
  | dead p => exact .dead p

theorem getElem?_snoc {α : Type} (l : List α) (x : α) (i : Nat) (y : α) (h : (l ++ [x])[i]? = some y) : l[i]? = some y ∨ (i = l.length ∧ y = x) := by
  rcases Nat.lt_or_ge i l.length with hl | hl
  · left; rwa [List.getElem?_append_left hl] at h
  · right
    rw [List.getElem?_append_right hl] at h
    have : i - l.length = 0 := by
      rcases Nat.eq_zero_or_pos (i - l.length) with h0 | h0
      · exact h0
      · rw [List.getElem?_eq_none (by simp; omega)] at h; cases h
    rw [this] at h
    simp at h
    exact ⟨by omega, h.symm⟩

/-- A thing more, in a block of its own (or in none). -/
theorem Inv.push {F : Mem} {M : Pls} {w w' : World} {H : List O} (hi : Inv F M w H) (o : O) (p : Pl) (hc : ∀ a v, w.cell? a = some v → w'.cell? a = some v)
    (hs : w.heap.size ≤ w'.heap.size) (hb : ∀ b, b < w.heap.size → w'.heap[b]? = w.heap[b]?) (ho : ObjRep F (M ++ [p]) w' o p)
    (hp : ∀ b, p.blk = some b → w.heap.size ≤ b ∧ b < w'.heap.size) : Inv F (M ++ [p]) w' (H ++ [o]) := by
  have hlen := hi.len
  refine ⟨fun a v h => hc _ _ (hi.cells a v h), by simp [hi.len], ?_, ?_, ?_, hi.gnd⟩
  · intro i o' p' h1 h2
    rcases getElem?_snoc _ _ _ _ h1 with h1 | ⟨h1, rfl⟩ <;> rcases getElem?_snoc _ _ _ _ h2 with h2 | ⟨h2, rfl⟩
    · exact (hi.objs i o' p' h1 h2).mono (.refl _) (.append _ _) (fun b e => hb b (hi.inb i p' b h2 e)) (fun b e o s h => h)
    · have := (List.getElem?_eq_some_iff.1 h1).1; omega
    · have := (List.getElem?_eq_some_iff.1 h2).1; omega
    · exact ho
  · intro i j o1 o2 p1 p2 b hne h1 h2 l1 l2 m1 m2 e1 e2
    rcases getElem?_snoc _ _ _ _ h1 with k1 | ⟨k1, e3⟩ <;> rcases getElem?_snoc _ _ _ _ h2 with k2 | ⟨k2, e4⟩ <;>
      rcases getElem?_snoc _ _ _ _ m1 with n1 | ⟨n1, e5⟩ <;> rcases getElem?_snoc _ _ _ _ m2 with n2 | ⟨n2, e6⟩
    all_goals first
      | exact hi.sep i j _ _ _ _ b hne k1 k2 l1 l2 n1 n2 e1 e2
      | (have a1 := hi.inb _ _ _ n1 e1; subst e6; have a2 := (hp _ e2).1; omega)
      | (have a1 := hi.inb _ _ _ n2 e2; subst e5; have a2 := (hp _ e1).1; omega)
      | (have a1 := (List.getElem?_eq_some_iff.1 k1).1; omega)
      | (have a1 := (List.getElem?_eq_some_iff.1 k2).1; omega)
      | (have a1 := (List.getElem?_eq_some_iff.1 n1).1; omega)
      | (have a1 := (List.getElem?_eq_some_iff.1 n2).1; omega)
      | omega
  · intro i p' b h e
    rcases getElem?_snoc _ _ _ _ h with h | ⟨h, rfl⟩
    · exact Nat.lt_of_lt_of_le (hi.inb i p' b h e) hs
    · exact (hp b e).2

theorem Ext.push {F : Mem} {M : Pls} {w w' : World} (p : Pl) (hs : w.heap.size ≤ w'.heap.size) (hos : w'.os = w.os) (ht : w'.tape = w.tape) (ho : w'.output = w.output)
    (hb : ∀ b, b < w.heap.size → w'.heap[b]? = w.heap[b]?) (hp : ∀ b, p.blk = some b → w.heap.size ≤ b) : Ext F M w F (M ++ [p]) w' :=
  ⟨.refl _, .append _ _, hs, hos, ht, ho, fun k hk _ => hb k hk, fun a h h' => absurd h h', fun i q b h e => by
    rcases getElem?_snoc _ _ _ _ h with h | ⟨h, rfl⟩
    · exact .inr ⟨i, q, h, e⟩
    · exact .inl (hp b e)⟩

/-- A new row of cells. -/
theorem alloc_row {F : Mem} {M : Pls} {w : World} {H : List O} (hi : Inv F M w H) (ty : TypeId) (c : Array Value) (cells : List V) (hs : c.size = cells.length)
    (hr : ∀ j, j < cells.length → Rep F M (c.getD j undef) (cells.getD j .any)) (h1 : ∀ j, j < cells.length → (c.getD j undef).oneCell' = true) :
    Inv F (M ++ [.row w.heap.size]) (w.alloc (.cells c ty)) (H ++ [.row ty cells]) ∧ Ext F M w F (M ++ [.row w.heap.size]) (w.alloc (.cells c ty)) ∧
      Rep F (M ++ [.row w.heap.size]) (.pointer (some ⟨w.heap.size, 0, none⟩)) (.bx H.length 0) := by
  refine ⟨hi.push _ _ (fun a v h => cell_alloc w _ h) (by simp) (fun b hb => heap_push_old w _ b hb) ?_ ?_, Ext.push _ (by simp) rfl rfl rfl (fun b hb => heap_push_old w _ b hb) ?_, ?_⟩
  · exact .row ty cells w.heap.size c (heap_alloc_new w _) hs (fun j hj => (hr j hj).mono (.refl _) (.append _ _)) h1 (F_new hi)
  · intro b e; simp [Pl.blk] at e; subst e; simp
  · intro b e; simp [Pl.blk] at e; omega
  · exact .bx 0 (by rw [← hi.len]; simp)

theorem Yl.box {o : Oper} {g : Nat → V} {H : List O} {t : TypeId} {x : Operand} (ho : o.op = .box t x) (h1 : (cellsV (evO g x)).all V.oneC = true) :
    Yl P o g H (.bx H.length 0) (H ++ [.row t (cellsV (evO g x))]) := by
  intro F M w ρ hi hr
  obtain ⟨hs, hr1, hr2⟩ := (hr x).cells h1
  obtain ⟨a1, a2, a3⟩ := alloc_row hi t (ρ x).cells (cellsV (evO g x)) hs hr1 hr2
  refine ⟨_, _, F, _, .inl ?_, a3, a1, a2⟩
  simp [execOp, ho, Instr.box, newVar, newRow]

/-- The zero value of a type. -/
def zeroV (P : Program) (t : TypeId) : Option V := ((P.info? t).bind (·.zero)).map ofC

theorem zero_run {t : TypeId} {z : V} (h : zeroV P t = some z) : ∃ v, (∀ w, (zeroValue t).run P w = .ok v w) ∧ z = ofC v := by
  unfold zeroV at h
  cases hi : P.info? t with
  | none => simp [hi] at h
  | some i =>
    cases hz : i.zero with
    | none => simp [hi, hz] at h
    | some v =>
      simp [hi, hz] at h
      exact ⟨v, fun w => by simp [zeroValue, typeInfo, hi, hz], h.symm⟩

theorem Yl.alloc {o : Oper} {g : Nat → V} {H : List O} {t : TypeId} {z : V} (ho : o.op = .alloc t) (hz : zeroV P t = some z) (h1 : (cellsV z).all V.oneC = true) :
    Yl P o g H (.bx H.length 0) (H ++ [.row t (cellsV z)]) := by
  intro F M w ρ hi hr
  obtain ⟨v, hv, rfl⟩ := zero_run hz
  obtain ⟨hs, hr1, hr2⟩ := (rep_ofC F M v).cells h1
  obtain ⟨a1, a2, a3⟩ := alloc_row hi t v.cells (cellsV (ofC v)) hs hr1 hr2
  refine ⟨_, _, F, _, .inl ?_, a3, a1, a2⟩
  have := hv w
  simp [execOp, ho, Instr.alloc, newVar, newRow, this]

end
end Go.Ab
