import Derived.Test.YtjggngbfmjneiaaDoorAbI
set_option linter.unusedVariables false
set_option linter.unusedSimpArgs false
namespace Go.Ab
section
variable {P : Program}

/-! ### Literals -/
theorem foldl_fill (off : Nat) : ∀ (vs : List Value) (k : Nat) (cs : Array Value), off + k + vs.length ≤ cs.size →
    ((vs.zipIdx k).foldl (fun cs (c, j) => cs.setIfInBounds (off + j) c) cs).size = cs.size ∧
    ∀ j, ((vs.zipIdx k).foldl (fun cs (c, j) => cs.setIfInBounds (off + j) c) cs).getD j undef = if off + k ≤ j ∧ j < off + k + vs.length then vs.getD (j - (off + k)) undef else cs.getD j undef
  | [], k, cs, h => ⟨rfl, fun j => by simp [show ¬ (off + k ≤ j ∧ j < off + k) by omega]⟩
  | v :: vs, k, cs, h => by
    obtain ⟨h1, h2⟩ := foldl_fill off vs (k + 1) (cs.setIfInBounds (off + k) v) (by simp at h ⊢; omega)
    simp only [List.zipIdx_cons, List.foldl_cons]
    refine ⟨by rw [h1]; simp, fun j => ?_⟩
    rw [h2]
    simp only [List.length_cons] at h ⊢
    by_cases e : j = off + k
    · subst e
      rw [if_neg (by omega), if_pos (by omega)]
      simp [Array.getD_eq_getD_getElem?, show off + k < cs.size by omega]
    · by_cases e2 : off + (k + 1) ≤ j ∧ j < off + (k + 1) + vs.length
      · rw [if_pos e2, if_pos (by omega)]
        obtain ⟨m, hm⟩ : ∃ m, j - (off + k) = m + 1 := ⟨j - (off + k) - 1, by omega⟩
        rw [hm, show j - (off + (k + 1)) = m by omega]
        simp
      · rw [if_neg e2, if_neg (by omega)]
        simp [Array.getD_eq_getD_getElem?, Array.getElem?_setIfInBounds, Ne.symm e]

def fillV (place : Nat → Option (Nat × Nat)) (cells : List V) : List (Nat × V) → Option (List V)
  | [] => some cells
  | (i, v) :: rest =>
    match place i with
    | none => none
    | some (off, size) => if (cellsV v).length = size ∧ off + size ≤ cells.length ∧ (cellsV v).all V.oneC = true then fillV place (setsV cells off (cellsV v)) rest else none

def AggRep (F : Mem) (M : Pls) (cs : Array Value) (cells : List V) : Prop :=
  cs.size = cells.length ∧ (∀ j, j < cells.length → Rep F M (cs.getD j undef) (cells.getD j .any)) ∧ (∀ j, j < cells.length → (cs.getD j undef).oneCell' = true)

theorem fill_sound {F : Mem} {M : Pls} (place : Nat → Option (Nat × Nat)) : ∀ (parts : List (Nat × Value)) (ps : List (Nat × V)) (cs : Array Value) (cells r : List V),
    parts.length = ps.length → (∀ j, j < ps.length → (parts.getD j (0, undef)).1 = (ps.getD j (0, .any)).1 ∧ Rep F M (parts.getD j (0, undef)).2 (ps.getD j (0, .any)).2) →
    AggRep F M cs cells → fillV place cells ps = some r → ∃ u, Instr.fill place cs parts = some u ∧ AggRep F M u r
  | [], [], cs, cells, r, _, _, hc, h => by simp [fillV] at h; subst h; exact ⟨cs, rfl, hc⟩
  | [], p :: ps, _, _, _, hl, _, _, _ => by simp at hl
  | p :: parts, [], _, _, _, hl, _, _, _ => by simp at hl
  | (i, v) :: parts, (i', x) :: ps, cs, cells, r, hl, hp, hc, h => by
    have h0 := hp 0 (by simp)
    simp at h0
    obtain ⟨rfl, hv⟩ := h0
    simp only [fillV] at h
    cases hpl : place i with
    | none => simp [hpl] at h
    | some os =>
      obtain ⟨off, size⟩ := os
      simp only [hpl] at h
      split at h
      · rename_i hcond
        obtain ⟨e1, e2, e3⟩ := hcond
        obtain ⟨s1, s2, s3⟩ := hv.cells e3
        have hsz : v.cells.size = size := s1.trans e1
        obtain ⟨c1, c2, c3⟩ := hc
        have hfold := foldl_fill off v.cells.toList 0 cs (by simp; omega)
        simp only [Nat.add_zero, Array.length_toList] at hfold
        have hnew : AggRep F M (v.cells.zipIdx.foldl (fun cs (c, j) => cs.setIfInBounds (off + j) c) cs) (setsV cells off (cellsV x)) := by
          have efold : v.cells.zipIdx.foldl (fun cs (c, j) => cs.setIfInBounds (off + j) c) cs = (v.cells.toList.zipIdx 0).foldl (fun cs (c, j) => cs.setIfInBounds (off + j) c) cs := by
            rw [← Array.foldl_toList]; simp
          rw [efold]
          have hlen := setsV_length (cells := cells) (vs := cellsV x) (off := off) (by omega)
          have hget : ∀ j, (setsV cells off (cellsV x)).getD j .any = if off ≤ j ∧ j < off + size then (cellsV x).getD (j - off) .any else cells.getD j .any := by
            intro j
            have := getD_sets cells (cellsV x) off j .any (by omega)
            unfold setsV
            rw [e1] at this ⊢
            exact this
          refine ⟨by rw [hfold.1, hlen]; exact c1, fun j hj => ?_, fun j hj => ?_⟩
          · rw [hfold.2, hget, hsz]
            split
            · have := s2 (j - off) (by omega)
              simpa [List.getD_eq_getElem?_getD, Array.getD_eq_getD_getElem?] using this
            · exact c2 j (by omega)
          · rw [hfold.2, hsz]
            split
            · have := s3 (j - off) (by omega)
              simpa [List.getD_eq_getElem?_getD, Array.getD_eq_getD_getElem?] using this
            · exact c3 j (by omega)
        obtain ⟨u, hu, hr⟩ := fill_sound place parts ps _ _ r (by simpa using hl) (fun j hj => by simpa using hp (j + 1) (by simpa using hj)) hnew h
        refine ⟨u, ?_, hr⟩
        simp only [Instr.fill, hpl]
        rw [if_neg (by simp [hsz]; omega)]
        exact hu
      · cases h

/-- A struct's places. -/
def placesOf (P : Program) (t : TypeId) : Option (List (Nat × Nat)) :=
  match P.underlying t with
  | some (.struct fs) => fs.toList.mapM (fun f => (P.info? f.type).map fun i => (f.offset, i.size))
  | _ => none

theorem aggRep_zero {F : Mem} {M : Pls} (v : Value) (h : (cellsV (ofC v)).all V.oneC = true) : AggRep F M v.cells (cellsV (ofC v)) :=
  (rep_ofC F M v).cells h

theorem parts_rep {F : Mem} {M : Pls} {g : Nat → V} {ρ : Operand → Value} (hr : ∀ x, Rep F M (ρ x) (evO g x)) (parts : Array (Nat × Operand)) :
    ((parts.map fun (i, x) => (i, ρ x)).toList).length = (parts.toList.map fun (i, x) => (i, evO g x)).length ∧
    ∀ j, j < (parts.toList.map fun (i, x) => (i, evO g x)).length → (((parts.map fun (i, x) => (i, ρ x)).toList).getD j (0, undef)).1 = ((parts.toList.map fun (i, x) => (i, evO g x)).getD j (0, .any)).1 ∧
      Rep F M (((parts.map fun (i, x) => (i, ρ x)).toList).getD j (0, undef)).2 ((parts.toList.map fun (i, x) => (i, evO g x)).getD j (0, .any)).2 := by
  refine ⟨by simp, fun j hj => ?_⟩
  simp at hj
  simp [List.getD_eq_getElem?_getD, hj]
  exact hr _

theorem Yp.buildStruct {o : Oper} {g : Nat → V} {H : List O} {t : TypeId} {parts : Array (Nat × Operand)} {z : V} {pl : List (Nat × Nat)} {r : List V} (ho : o.op = .build t parts) (hz : zeroV P t = some z) (hzo : (cellsV z).all V.oneC = true)
    (hp : placesOf P t = some pl) (hf : fillV (fun i => pl.toArray[i]?) (cellsV z) (parts.toList.map fun (i, x) => (i, evO g x)) = some r) : Yp P o g H (.agg r) := by
  intro F M w ρ hi hr
  obtain ⟨z', hz', rfl⟩ : ∃ z', ((P.info? t).bind (·.zero)) = some z' ∧ z = ofC z' := by
    unfold zeroV at hz
    cases h : (P.info? t).bind (·.zero) with
    | none => simp [h] at hz
    | some z' => simp [h] at hz; exact ⟨z', rfl, hz.symm⟩
  obtain ⟨p1, p2⟩ := parts_rep hr parts
  obtain ⟨u, hu, hru⟩ := fill_sound (F := F) (M := M) _ _ _ _ _ r p1 p2 (aggRep_zero z' hzo) hf
  refine ⟨.agg u, ?_, .agg u r hru.1 hru.2.1⟩
  have hb : P.built t (parts.map fun (i, x) => (i, ρ x)).toList = some u := by
    unfold placesOf at hp
    unfold Program.built
    cases hit : P.info? t with
    | none => simp [hit] at hz'
    | some it =>
      simp [hit] at hz'
      cases hU : P.underlying t with
      | none => simp [hU] at hp
      | some d =>
        cases d <;> simp [hU] at hp
        simp only [hz', hp]
        exact hu
  have := run_build (P := P) w t _ u hb
  simp [execOp, ho, this]

theorem Yp.buildArr {o : Oper} {g : Nat → V} {H : List O} {t e : TypeId} {len : Nat} {agg : Bool} {n : Nat} {parts : Array (Nat × Operand)} {z : V} {r : List V} (ho : o.op = .build t parts) (hz : zeroV P t = some z) (hzo : (cellsV z).all V.oneC = true)
    (ht : P.underlying t = some (.array len e)) (he : TyIs P e agg n) (hf : fillV (fun i => some (i * n, n)) (cellsV z) (parts.toList.map fun (i, x) => (i, evO g x)) = some r) : Yp P o g H (.agg r) := by
  intro F M w ρ hi hr
  obtain ⟨z', hz', rfl⟩ : ∃ z', ((P.info? t).bind (·.zero)) = some z' ∧ z = ofC z' := by
    unfold zeroV at hz
    cases h : (P.info? t).bind (·.zero) with
    | none => simp [h] at hz
    | some z' => simp [h] at hz; exact ⟨z', rfl, hz.symm⟩
  obtain ⟨p1, p2⟩ := parts_rep hr parts
  obtain ⟨u, hu, hru⟩ := fill_sound (F := F) (M := M) _ _ _ _ _ r p1 p2 (aggRep_zero z' hzo) hf
  refine ⟨.agg u, ?_, .agg u r hru.1 hru.2.1⟩
  have hb : P.built t (parts.map fun (i, x) => (i, ρ x)).toList = some u := by
    unfold Program.built
    cases hit : P.info? t with
    | none => simp [hit] at hz'
    | some it =>
      simp [hit] at hz'
      cases hie : P.info? e with
      | none => have := he.2; simp [hie] at this
      | some ie =>
        have hsz : ie.size = n := by have := he.2; simpa [hie] using this
        have hu' : Instr.fill (fun i => some (i * ie.size, ie.size)) z'.cells (parts.map fun (i, x) => (i, ρ x)).toList = some u := by rw [hsz]; exact hu
        simp only [ht, hz', hie]
        exact hu'
  have := run_build (P := P) w t _ u hb
  simp [execOp, ho, this]

/-! ### A new array that no longer changes -/
def toD : V → Option D
  | .d x => some x
  | .gs _ rows => some (.sl rows)
  | .xs rows => some (.sl rows)
  | _ => none

theorem toD_sound {F : Mem} {M : Pls} {v : Value} {x : V} {y : D} (h : Rep F M v x) (hx : toD x = some y) : RepD F v y := by
  cases h with
  | d h => simp [toD] at hx; subst hx; exact h
  | gs h => simp [toD] at hx; subst hx; exact h
  | xs h => simp [toD] at hx; subst hx; exact h
  | _ => simp [toD] at hx

def withBlock (F : Mem) (b n : Nat) (f : Nat → Value) : Mem := fun a => if a.block = b ∧ a.spot = none ∧ a.off < n then some (f a.off) else F a

theorem withBlock_le {F : Mem} {b n : Nat} {f : Nat → Value} (h : ∀ o s, F ⟨b, o, s⟩ = none) : F.le (withBlock F b n f) := by
  intro a v ha
  unfold withBlock
  rw [if_neg]
  · exact ha
  · rintro ⟨rfl, _, _⟩
    rw [h a.off a.spot] at ha
    cases ha

theorem withBlock_at (F : Mem) (b n k : Nat) (f : Nat → Value) (h : k < n) : withBlock F b n f ⟨b, k, none⟩ = some (f k) := by
  simp [withBlock, h]

theorem withBlock_other (F : Mem) (b n : Nat) (f : Nat → Value) (a : Addr) (h : a.block ≠ b) : withBlock F b n f a = F a := by
  simp [withBlock, h]

theorem freeze_new {F : Mem} {M : Pls} {w : World} {H : List O} (hi : Inv F M w H) (c : Array Value) (ty n : Nat) (hn : n ≤ c.size) :
    Inv (withBlock F w.heap.size n (fun k => c.getD k undef)) M (w.alloc (.cells c ty)) H ∧ Ext F M w (withBlock F w.heap.size n (fun k => c.getD k undef)) M (w.alloc (.cells c ty)) := by
  have hle : F.le (withBlock F w.heap.size n (fun k => c.getD k undef)) := withBlock_le (F_new hi)
  have hoth : ∀ b, b < w.heap.size → ∀ o s, F ⟨b, o, s⟩ = none → withBlock F w.heap.size n (fun k => c.getD k undef) ⟨b, o, s⟩ = none := fun b hb o s h => by
    rw [withBlock_other _ _ _ _ _ (by simp; omega)]; exact h
  refine ⟨⟨fun a v h => ?_, hi.len, fun i o p h1 h2 => (hi.objs i o p h1 h2).mono hle (.refl _) (fun b e => heap_push_old w _ b (hi.inb i p b h2 e)) (fun b e => hoth b (hi.inb i p b h2 e)), hi.sep,
    fun i p b h e => by have := hi.inb i p b h e; simp; omega, hi.gnd.trans hle⟩,
    ⟨hle, .refl _, by simp, rfl, rfl, rfl, fun k hk _ => heap_push_old w _ k hk, fun a h h' => ?_, fun i p b h e => .inr ⟨i, p, h, e⟩⟩⟩
  · unfold withBlock at h
    split at h
    · rename_i hc
      obtain ⟨h1, h2, h3⟩ := hc
      cases h
      have : a = ⟨w.heap.size, a.off, none⟩ := by cases a; simp_all
      rw [this, World.cell?_alloc_new]
      simp [Array.getD_eq_getD_getElem?, show a.off < c.size by omega]
    · exact cell_alloc w _ (hi.cells a v h)
  · by_cases hb : a.block = w.heap.size
    · exact .inl (by omega)
    · rw [withBlock_other _ _ _ _ _ hb] at h'
      exact absurd h h'

def chunk (n : Nat) : Nat → List D → List (List D)
  | 0, _ => []
  | k + 1, l => l.take n :: chunk n k (l.drop n)

theorem chunk_length (n : Nat) : ∀ k l, (chunk n k l).length = k
  | 0, _ => rfl
  | k + 1, l => by simp [chunk, chunk_length n k]
theorem chunk_row (n : Nat) : ∀ (k : Nat) (l : List D), k * n ≤ l.length → ∀ r ∈ chunk n k l, r.length = n
  | 0, _, _, r, h => by simp [chunk] at h
  | k + 1, l, hl, r, h => by
    rw [Nat.add_mul] at hl
    simp [chunk] at h
    rcases h with rfl | h
    · simp; omega
    · exact chunk_row n k _ (by simp; omega) r h
theorem chunk_get (n : Nat) : ∀ (k : Nat) (l : List D) (i j : Nat), i < k → j < n → k * n ≤ l.length → ((chunk n k l).getD i []).getD j default = l.getD (i * n + j) default
  | k + 1, l, 0, j, _, hj, _ => by
    simp [chunk, List.getD_eq_getElem?_getD, List.getElem?_take, hj]
  | k + 1, l, i + 1, j, hi, hj, hl => by
    rw [Nat.add_mul] at hl
    simp only [chunk, List.getD_cons_succ]
    rw [chunk_get n k (l.drop n) i j (by omega) hj (by simp; omega)]
    simp [List.getD_eq_getElem?_getD]
    congr 2
    rw [Nat.add_mul]; omega

theorem mapM_toD {F : Mem} {M : Pls} : ∀ {cells : List V} {ds : List D} {f : Nat → Value}, cells.mapM toD = some ds → (∀ j, j < cells.length → Rep F M (f j) (cells.getD j .any)) →
    ds.length = cells.length ∧ ∀ j, j < ds.length → RepD F (f j) (ds.getD j default)
  | [], ds, f, h, _ => by simp at h; subst h; exact ⟨rfl, fun j hj => by simp at hj⟩
  | x :: cells, ds, f, h, hr => by
    simp only [List.mapM_cons, Option.bind_eq_bind, Option.pure_def] at h
    cases hx : toD x with
    | none => simp [hx] at h
    | some y =>
      cases hm : cells.mapM toD with
      | none => simp [hx, hm] at h
      | some ys =>
        simp [hx, hm] at h
        subst h
        obtain ⟨h1, h2⟩ := mapM_toD (f := fun j => f (j + 1)) hm (fun j hj => by simpa using hr (j + 1) (by simpa using hj))
        refine ⟨by simp [h1], fun j hj => ?_⟩
        cases j with
        | zero => exact toD_sound (hr 0 (by simp)) hx
        | succ j => simpa using h2 j (by simpa using hj)

theorem Yl.buildSlice {o : Oper} {g : Nat → V} {H : List O} {t e : TypeId} {len n : Nat} {agg : Bool} {parts : Array (Nat × Operand)} {z : V} {cells : List V} {ds : List D} (ho : o.op = .buildSlice t len parts)
    (ht : P.underlying t = some (.slice e)) (he : TyIs P e agg n) (hz : zeroV P e = some z) (hzo : (cellsV z).all V.oneC = true) (hzl : (cellsV z).length = n) (hn0 : 0 < len * n) (hbig : len * n ≤ 16777216)
    (hf : fillV (fun i => some (i * n, n)) ((List.range (len * n)).map fun i => (cellsV z).getD (i % n) .any) (parts.toList.map fun (i, x) => (i, evO g x)) = some cells)
    (hd : cells.mapM toD = some ds) (hcl : cells.length = len * n) : Yl P o g H (.xs (chunk n len ds)) H := by
  intro F M w ρ hi hr
  obtain ⟨v, hv, rfl⟩ := zero_run hz
  have hz1 := aggRep_zero (F := F) (M := M) v hzo
  obtain ⟨p1, p2⟩ := parts_rep hr parts
  have hzs : v.cells.size = n := by rw [hz1.1, hzl]
  have hn : 0 < n := by rcases Nat.eq_zero_or_pos n with h | h; · simp [h] at hn0
                        · exact h
  have hstart : AggRep F M ((Array.range (len * n)).map (v.cells[· % v.cells.size]!)) ((List.range (len * n)).map fun i => (cellsV (ofC v)).getD (i % n) .any) := by
    have e1 : ∀ j, j < len * n → ((Array.range (len * n)).map (v.cells[· % v.cells.size]!)).getD j undef = v.cells.getD (j % n) undef := fun j hj => by
      have hm : j % n < v.cells.size := by rw [hzs]; exact Nat.mod_lt _ hn
      have e1 : ((Array.range (len * n)).map (v.cells[· % v.cells.size]!))[j]? = some (v.cells[j % v.cells.size]!) := by
        rw [Array.getElem?_map, Array.getElem?_range, if_pos hj]; rfl
      rw [Array.getD_eq_getD_getElem?, e1, Option.getD_some, hzs, getElem!_pos v.cells (j % n) hm, Array.getD_eq_getD_getElem?, Array.getElem?_eq_getElem hm, Option.getD_some]
    have e2 : ∀ j, j < len * n → ((List.range (len * n)).map fun i => (cellsV (ofC v)).getD (i % n) .any).getD j .any = (cellsV (ofC v)).getD (j % n) .any := fun j hj => by
      simp [List.getD_eq_getElem?_getD, List.getElem?_range hj]
    refine ⟨by simp, fun j hj => ?_, fun j hj => ?_⟩
    · simp at hj
      rw [e1 j hj, e2 j hj]
      exact hz1.2.1 _ (by rw [hzl]; exact Nat.mod_lt _ hn)
    · simp at hj
      rw [e1 j hj]
      exact hz1.2.2 _ (by rw [hzl]; exact Nat.mod_lt _ hn)
  obtain ⟨u, hu, hru⟩ := fill_sound (F := F) (M := M) _ _ _ _ _ cells p1 p2 hstart hf
  have hul : u.size = len * n := by rw [hru.1, hcl]
  obtain ⟨i1, i2⟩ := freeze_new hi u e (len * n) (by omega)
  obtain ⟨d1, d2⟩ := mapM_toD (f := fun j => u.getD j undef) hd hru.2.1
  have hrd : RepD (withBlock F w.heap.size (len * n) (fun k => u.getD k undef)) (.slice (some ⟨w.heap.size, 0, none⟩) len len) (.sl (chunk n len ds)) := by
    have h := RepD.sl (F := withBlock F w.heap.size (len * n) (fun k => u.getD k undef)) (some ⟨w.heap.size, 0, none⟩) len n (chunk n len ds) (fun k => u.getD k undef)
      (chunk_row n len ds (by omega)) (by rw [chunk_length]; have := Nat.le_mul_of_pos_right len hn; simp only [maxRows]; omega) (by rw [chunk_length]; exact Nat.le_refl _)
      (fun _ => ⟨_, rfl, fun k hk => by rw [chunk_length] at hk; rw [add_lit, Nat.zero_add, withBlock_at _ _ _ _ _ hk]⟩)
      (fun i j hi' hj => by
        rw [chunk_length] at hi'
        rw [chunk_get n len ds i j hi' hj (by omega)]
        have hlt : i * n + j < len * n := calc i * n + j < i * n + n := by omega
          _ = (i + 1) * n := by rw [Nat.add_mul]; simp
          _ ≤ len * n := Nat.mul_le_mul_right _ hi'
        exact (d2 _ (by omega)).mono (withBlock_le (F_new hi)))
    rwa [chunk_length] at h
  refine ⟨_, _, _, M, .inl ?_, .xs hrd, i1, i2⟩
  have hsz := tyIs_size he w
  have hzr := hv w
  simp [execOp, ho, Instr.buildSlice, run_underlying ht, hsz, hzr, show ¬ (16777216 < len * n) by omega, show ¬ (len * n = 0) by omega, newRow]
  have hu' : Instr.fill (fun i => some (i * n, n)) (Array.map (fun x => v.cells[x % v.cells.size]!) (Array.range (len * n))) (List.map (fun x => (x.fst, ρ x.snd)) parts.toList) = some u := by simpa using hu
  rw [hu']
  simp
end
end Go.Ab
