import Derived.Test.YtjggngbfmjneiaaDoorAbH
set_option linter.unusedVariables false
set_option linter.unusedSimpArgs false
namespace Go.Ab
section
variable {P : Program}

def setsV (cells : List V) (off : Nat) (vs : List V) : List V := cells.take off ++ vs ++ cells.drop (off + vs.length)

theorem setsV_length {cells vs : List V} {off : Nat} (h : off + vs.length ≤ cells.length) : (setsV cells off vs).length = cells.length := by
  simp [setsV]; omega

theorem getD_sets {α : Type} (c vs : List α) (off j : Nat) (d : α) (h : off + vs.length ≤ c.length) :
    (c.take off ++ vs ++ c.drop (off + vs.length)).getD j d = if off ≤ j ∧ j < off + vs.length then vs.getD (j - off) d else c.getD j d := by
  simp only [List.getD_eq_getElem?_getD]
  have e1 : (c.take off).length = off := by simp; omega
  have e2 : (c.take off ++ vs).length = off + vs.length := by simp; omega
  by_cases h1 : j < off
  · rw [if_neg (by omega), List.append_assoc, List.getElem?_append_left (by omega), List.getElem?_take, if_pos h1]
  · by_cases h2 : j < off + vs.length
    · rw [if_pos (by omega), List.append_assoc, List.getElem?_append_right (by omega), List.getElem?_append_left (by omega), e1]
    · rw [if_neg (by omega), List.getElem?_append_right (by omega), List.getElem?_drop, e2, show off + vs.length + (j - (off + vs.length)) = j by omega]

theorem setRow_cell_other (w : World) (g : Nat) (cs : Array Value) (a : Addr) (h : a.block ≠ g) : (w.setRow g cs).cell? a = w.cell? a :=
  World.cell?_of_block (setRow_other w g a.block cs h)

theorem size_setRow (w : World) (g : Nat) (cs : Array Value) : (w.setRow g cs).heap.size = w.heap.size := by simp [World.setRow]

/-- The i-th thing is turned, in its own block. -/
theorem Inv.turn {F F' : Mem} {M M' : Pls} {w w' : World} {H : List O} (hi : Inv F M w H) {i : Nat} {o o' : O} {p p' : Pl} (hH : H[i]? = some o) (hM : M[i]? = some p) (hlive : o.live = true)
    (hM' : M' = M.set i p') (hle : p.le p') (hF : F.le F') (hcells : ∀ a v, F' a = some v → w'.cell? a = some v) (hs : w.heap.size ≤ w'.heap.size)
    (hb : ∀ b, b < w.heap.size → p.blk ≠ some b → w'.heap[b]? = w.heap[b]?)
    (hn : ∀ b, b < w.heap.size → p.blk ≠ some b → ∀ o s, F ⟨b, o, s⟩ = none → F' ⟨b, o, s⟩ = none)
    (ho : ObjRep F' M' w' o' p') (hp : ∀ b, p'.blk = some b → p.blk = some b ∨ (w.heap.size ≤ b ∧ b < w'.heap.size)) : Inv F' M' w' (H.set i o') := by
  have hil : i < H.length := (List.getElem?_eq_some_iff.1 hH).1
  have hiM : i < M.length := (List.getElem?_eq_some_iff.1 hM).1
  have hmle : Pls.le M M' := by
    intro j q hq
    rw [hM']
    by_cases hj : i = j
    · subst hj
      rw [hM] at hq; cases hq
      exact ⟨p', by simp [hiM], hle⟩
    · exact ⟨q, by rw [List.getElem?_set_ne hj]; exact hq, q.le_refl⟩
  have hblk : ∀ (j : Nat) (q : Pl) (b : Nat), M'[j]? = some q → q.blk = some b → b < w'.heap.size := by
    intro j q b hq e
    rw [hM'] at hq
    by_cases hj : i = j
    · subst hj
      rw [List.getElem?_set_self hiM] at hq; cases hq
      rcases hp b e with h1 | h1
      · exact Nat.lt_of_lt_of_le (hi.inb i p b hM h1) hs
      · exact h1.2
    · rw [List.getElem?_set_ne hj] at hq
      exact Nat.lt_of_lt_of_le (hi.inb j q b hq e) hs
  refine ⟨hcells, by rw [hM']; simp [hi.len], ?_, ?_, hblk, hi.gnd.trans hF⟩
  · intro j o1 p1 h1 h2
    by_cases hj : i = j
    · subst hj
      rw [List.getElem?_set_self hil] at h1; cases h1
      rw [hM', List.getElem?_set_self hiM] at h2; cases h2
      exact ho
    · rw [List.getElem?_set_ne hj] at h1
      rw [hM', List.getElem?_set_ne hj] at h2
      have hor := hi.objs j o1 p1 h1 h2
      by_cases hl : o1.live = true
      · have hne : ∀ b, p1.blk = some b → p.blk ≠ some b := fun b e e' => hi.sep i j o o1 p p1 b hj hH h1 hlive hl hM h2 e' e
        exact hor.mono hF hmle (fun b e => hb b (hi.inb j p1 b h2 e) (hne b e)) (fun b e => hn b (hi.inb j p1 b h2 e) (hne b e))
      · cases o1 with
        | dead => exact .dead _
        | row => simp [O.live] at hl
        | tok => simp [O.live] at hl
  · intro a b o1 o2 p1 p2 c hne h1 h2 l1 l2 m1 m2 e1 e2
    rw [hM'] at m1 m2
    by_cases ha : i = a
    · subst ha
      rw [List.getElem?_set_ne (by exact hne)] at h2 m2
      rw [List.getElem?_set_self hiM] at m1; cases m1
      rcases hp c e1 with h3 | h3
      · exact hi.sep i b o o2 p p2 c hne hH h2 hlive l2 hM m2 h3 e2
      · have := hi.inb b p2 c m2 e2; omega
    · rw [List.getElem?_set_ne ha] at h1 m1
      by_cases hb' : i = b
      · subst hb'
        rw [List.getElem?_set_self hiM] at m2; cases m2
        rcases hp c e2 with h3 | h3
        · exact hi.sep a i o1 o p1 p c hne h1 hH l1 hlive m1 hM e1 h3
        · have := hi.inb a p1 c m1 e1; omega
      · rw [List.getElem?_set_ne hb'] at h2 m2
        exact hi.sep a b o1 o2 p1 p2 c hne h1 h2 l1 l2 m1 m2 e1 e2

theorem Ext.turn {F F' : Mem} {M M' : Pls} {w w' : World} {i : Nat} {p p' : Pl} (hM : M[i]? = some p) (hM' : M' = M.set i p') (hle : p.le p') (hF : F.le F') (hs : w.heap.size ≤ w'.heap.size)
    (hos : w'.os = w.os) (ht : w'.tape = w.tape) (ho : w'.output = w.output)
    (hb : ∀ b, b < w.heap.size → p.blk ≠ some b → w'.heap[b]? = w.heap[b]?)
    (hnF : ∀ a, F a = none → F' a ≠ none → w.heap.size ≤ a.block ∨ p.blk = some a.block)
    (hp : ∀ b, p'.blk = some b → p.blk = some b ∨ w.heap.size ≤ b) : Ext F M w F' M' w' := by
  have hiM : i < M.length := (List.getElem?_eq_some_iff.1 hM).1
  refine ⟨hF, ?_, hs, hos, ht, ho, fun k hk hall => hb k hk (hall i p hM), fun a h h' => ?_, fun j q b hq e => ?_⟩
  · intro j q hq
    rw [hM']
    by_cases hj : i = j
    · subst hj
      rw [hM] at hq; cases hq
      exact ⟨p', by simp [hiM], hle⟩
    · exact ⟨q, by rw [List.getElem?_set_ne hj]; exact hq, q.le_refl⟩
  · rcases hnF a h h' with h1 | h1
    · exact .inl h1
    · exact .inr ⟨i, p, hM, h1⟩
  · rw [hM'] at hq
    by_cases hj : i = j
    · subst hj
      rw [List.getElem?_set_self hiM] at hq; cases hq
      rcases hp b e with h1 | h1
      · exact .inr ⟨i, p, hM, h1⟩
      · exact .inl h1
    · rw [List.getElem?_set_ne hj] at hq
      exact .inr ⟨j, q, hq, e⟩

theorem set_self {α : Type} (l : List α) (i : Nat) (x : α) (h : l[i]? = some x) : l.set i x = l := by
  apply List.ext_getElem?
  intro j
  by_cases hj : i = j
  · subst hj
    have hl := (List.getElem?_eq_some_iff.1 h).1
    rw [List.getElem?_set_self hl, h]
  · rw [List.getElem?_set_ne hj]

theorem Yl.store {o : Oper} {g : Nat → V} {H : List O} {t ty : TypeId} {a x : Operand} {agg : Bool} {n id off : Nat} {cells : List V} (ho : o.op = .store t a x) (ht : TyIs P t agg n)
    (ha : evO g a = .bx id off) (hH : H[id]? = some (.row ty cells)) (hx : (cellsV (evO g x)).all V.oneC = true) (hn : (cellsV (evO g x)).length = n) (hfit : off + n ≤ cells.length) :
    Yl P o g H (.d (.lit undef)) (H.set id (.row ty (setsV cells off (cellsV (evO g x))))) := by
  intro F M w ρ hi hr
  have h1 := hr a
  rw [ha] at h1
  obtain ⟨hs, hrep, hone⟩ := (hr x).cells hx
  generalize hv : ρ a = v at h1
  cases h1 with
  | @bx _ blk _ hM =>
    have hobj := hi.objs id _ _ hH hM
    cases hobj with
    | row _ _ _ c hc hcs hcr hc1 hcF =>
      have hl : (ρ x).cells.toList.length = n := by simp [hs, hn]
      have hst := run_storeCells_at P blk off ty (ρ x).cells.toList 0 c w hc (by rw [hl]; omega) (fun u hu => by
        obtain ⟨j, hj, rfl⟩ := List.mem_iff_getElem.1 hu
        have := hone j (by simp at hj; omega)
        simp at hj
        simpa [Array.getD_eq_getD_getElem?, hj] using this)
      simp only [Nat.add_zero] at hst
      generalize hnew : (c.toList.take off ++ (ρ x).cells.toList ++ c.toList.drop (off + (ρ x).cells.toList.length)).toArray = new at hst
      have hnl : new.size = c.size := by rw [← hnew]; simp; omega
      have hget : ∀ j, new.getD j undef = if off ≤ j ∧ j < off + n then (ρ x).cells.getD (j - off) undef else c.getD j undef := by
        intro j
        have := getD_sets c.toList (ρ x).cells.toList off j undef (by rw [hl]; simp; omega)
        rw [hl] at this
        rw [← hnew]
        simp only [Array.getD_eq_getD_getElem?, List.getElem?_toArray, hl] at *
        simpa [List.getD_eq_getElem?_getD, Array.getD_eq_getD_getElem?] using this
      have hgetV : ∀ j, (setsV cells off (cellsV (evO g x))).getD j .any = if off ≤ j ∧ j < off + n then (cellsV (evO g x)).getD (j - off) .any else cells.getD j .any := by
        intro j
        have := getD_sets cells (cellsV (evO g x)) off j .any (by rw [hn]; omega)
        unfold setsV
        rw [hn] at this ⊢
        exact this
      have hlen := setsV_length (cells := cells) (vs := cellsV (evO g x)) (off := off) (by rw [hn]; exact hfit)
      refine ⟨undef, w.setRow blk new, F, M, .inr ⟨?_, rfl⟩, .lit _, ?_, ?_⟩
      · have hsz := tyIs_size ht w
        simp [execOp, ho, Instr.storeAt, Instr.sureAddr, hv, storeVar, hsz, hs, hn, hst]
      · refine hi.turn hH hM rfl (set_self M id _ hM).symm (Pl.le_refl _) (.refl _) ?_ (by rw [size_setRow]; exact Nat.le_refl _) ?_ ?_ ?_ ?_
        · intro a v hF
          rw [setRow_cell_other]
          · exact hi.cells a v hF
          · intro e
            have := hcF a.off a.spot
            rw [← e] at this
            rw [show (⟨a.block, a.off, a.spot⟩ : Addr) = a from rfl, hF] at this
            cases this
        · intro b hb hne
          exact setRow_other w blk b new (fun e => hne (by simp [Pl.blk, e]))
        · intro b hb hne o s h; exact h
        · refine .row ty _ blk new (setRow_heap w blk c new ty (0, 0) hc) (by rw [hlen, hnl]; exact hcs) (fun j hj => ?_) (fun j hj => ?_) hcF
          · rw [hget, hgetV]
            split
            · exact hrep _ (by omega)
            · exact hcr j (by omega)
          · rw [hget]
            split
            · exact hone _ (by omega)
            · exact hc1 j (by omega)
        · intro b e; exact .inl e
      · refine Ext.turn hM (set_self M id _ hM).symm (Pl.le_refl _) (.refl _) (by rw [size_setRow]; exact Nat.le_refl _) rfl rfl rfl ?_ (fun a h h' => absurd h h') (fun b e => .inl e)
        intro b hb hne
        exact setRow_other w blk b new (fun e => hne (by simp [Pl.blk, e]))
end
end Go.Ab
