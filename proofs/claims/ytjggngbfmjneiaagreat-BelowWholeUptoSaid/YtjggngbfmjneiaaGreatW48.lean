import Derived.Test.YtjggngbfmjneiaaGreatProg
import Derived.Shelf.Slices.In.Clone
import Derived.Shelf.Slices.In.CompactS
import Derived.Shelf.Slices.In.SortAlone
import Derived.Test.YtjggngbfmjneiaaGreatPZ
import Derived.Deep.RegionLaw
import Derived.Deep.AppendLies
import Derived.Lib.OwnBridge
import Derived.Sort.OwnSorted
import Derived.Shelf.Slices.In.SortNone
set_option linter.unusedVariables false
set_option maxRecDepth 4000
namespace Go.Ab
open Go.Proofs
def renlaysClone : Go.Shelf.Ren := ⟨fun x => match x with
  | 16 => 109
  | n => n, fun x => match x with
  | 24 => 23
  | 9 => 9
  | 4 => 4
  | n => n, fun n => n⟩
theorem laysClone : Lays2.n16 Tryz.prog renlaysClone := {
  mixed := by kernel_rfl
  f16 := Eq.trans Tryz.func109 (by kernel_rfl)
  t4 := Tryz.underlying4
  a4 := Tryz.isAgg4
  z4 := Tryz.sizeOf4
  v4 := Tryz.zeroValue4
  t9 := Tryz.underlying9
  a9 := Tryz.isAgg9
  z9 := Tryz.sizeOf9
  v9 := Tryz.zeroValue9
  t24 := Tryz.underlying23
  a24 := Tryz.isAgg23
  z24 := Tryz.sizeOf23
  v24 := Tryz.zeroValue23
  i9 := by kernel_rfl
}
def renlaysSort : Go.Shelf.Ren := ⟨fun x => match x with
  | 190 => 110
  | 125 => 117
  | 258 => 116
  | 128 => 128
  | 129 => 129
  | 302 => 120
  | 303 => 121
  | 304 => 122
  | 305 => 123
  | 306 => 124
  | 307 => 125
  | 308 => 118
  | 309 => 126
  | 310 => 127
  | 333 => 131
  | 329 => 132
  | 330 => 133
  | 334 => 134
  | 335 => 135
  | 336 => 130
  | 344 => 136
  | n => n, fun x => match x with
  | 31 => 23
  | 9 => 9
  | 3 => 3
  | 46 => 117
  | 0 => 0
  | 51 => 127
  | 53 => 129
  | 4 => 4
  | 183 => 121
  | 182 => 120
  | 131 => 111
  | 5 => 5
  | 218 => 130
  | 222 => 134
  | 228 => 136
  | 229 => 137
  | n => n, fun n => n⟩
theorem laysSort : Lays.n190 Tryz.prog renlaysSort := {
  mixed := by kernel_rfl
  f125 := Eq.trans Tryz.func117 (by kernel_rfl)
  f128 := Eq.trans Tryz.func128 (by kernel_rfl)
  f129 := Eq.trans Tryz.func129 (by kernel_rfl)
  f190 := Eq.trans Tryz.func110 (by kernel_rfl)
  f258 := Eq.trans Tryz.func116 (by kernel_rfl)
  f302 := Eq.trans Tryz.func120 (by kernel_rfl)
  f303 := Eq.trans Tryz.func121 (by kernel_rfl)
  f304 := Eq.trans Tryz.func122 (by kernel_rfl)
  f305 := Eq.trans Tryz.func123 (by kernel_rfl)
  f306 := Eq.trans Tryz.func124 (by kernel_rfl)
  f307 := Eq.trans Tryz.func125 (by kernel_rfl)
  f308 := Eq.trans Tryz.func118 (by kernel_rfl)
  f309 := Eq.trans Tryz.func126 (by kernel_rfl)
  f310 := Eq.trans Tryz.func127 (by kernel_rfl)
  f329 := Eq.trans Tryz.func132 (by kernel_rfl)
  f330 := Eq.trans Tryz.func133 (by kernel_rfl)
  f333 := Eq.trans Tryz.func131 (by kernel_rfl)
  f334 := Eq.trans Tryz.func134 (by kernel_rfl)
  f335 := Eq.trans Tryz.func135 (by kernel_rfl)
  f336 := Eq.trans Tryz.func130 (by kernel_rfl)
  f344 := Eq.trans Tryz.func136 (by kernel_rfl)
  t0 := Tryz.underlying0
  a0 := Tryz.isAgg0
  z0 := Tryz.sizeOf0
  v0 := Tryz.zeroValue0
  t3 := Tryz.underlying3
  a3 := Tryz.isAgg3
  z3 := Tryz.sizeOf3
  v3 := Tryz.zeroValue3
  t4 := Tryz.underlying4
  a4 := Tryz.isAgg4
  z4 := Tryz.sizeOf4
  v4 := Tryz.zeroValue4
  t5 := Tryz.underlying5
  a5 := Tryz.isAgg5
  z5 := Tryz.sizeOf5
  v5 := Tryz.zeroValue5
  t9 := Tryz.underlying9
  a9 := Tryz.isAgg9
  z9 := Tryz.sizeOf9
  v9 := Tryz.zeroValue9
  t31 := Tryz.underlying23
  a31 := Tryz.isAgg23
  z31 := Tryz.sizeOf23
  v31 := Tryz.zeroValue23
  t46 := Tryz.underlying117
  a46 := Tryz.isAgg117
  z46 := Tryz.sizeOf117
  v46 := Tryz.zeroValue117
  t51 := Tryz.underlying127
  a51 := Tryz.isAgg127
  z51 := Tryz.sizeOf127
  v51 := Tryz.zeroValue127
  t53 := Tryz.underlying129
  a53 := Tryz.isAgg129
  z53 := Tryz.sizeOf129
  v53 := Tryz.zeroValue129
  t131 := Tryz.underlying111
  a131 := Tryz.isAgg111
  z131 := Tryz.sizeOf111
  v131 := Tryz.zeroValue111
  t182 := Tryz.underlying120
  a182 := Tryz.isAgg120
  z182 := Tryz.sizeOf120
  v182 := Tryz.zeroValue120
  t183 := Tryz.underlying121
  a183 := Tryz.isAgg121
  z183 := Tryz.sizeOf121
  v183 := Tryz.zeroValue121
  t218 := Tryz.underlying130
  a218 := Tryz.isAgg130
  z218 := Tryz.sizeOf130
  v218 := Tryz.zeroValue130
  t222 := Tryz.underlying134
  a222 := Tryz.isAgg134
  z222 := Tryz.sizeOf134
  v222 := Tryz.zeroValue134
  t228 := Tryz.underlying136
  a228 := Tryz.isAgg136
  z228 := Tryz.sizeOf136
  v228 := Tryz.zeroValue136
  t229 := Tryz.underlying137
  a229 := Tryz.isAgg137
  z229 := Tryz.sizeOf137
  v229 := Tryz.zeroValue137
}
def renlaysCompact : Go.Shelf.Ren := ⟨fun x => match x with
  | 194 => 111
  | n => n, fun x => match x with
  | 31 => 23
  | 9 => 9
  | 3 => 3
  | 4 => 4
  | 0 => 0
  | n => n, fun n => n⟩
theorem laysCompact : Lays.n194 Tryz.prog renlaysCompact := {
  mixed := by kernel_rfl
  f194 := Eq.trans Tryz.func111 (by kernel_rfl)
  t0 := Tryz.underlying0
  a0 := Tryz.isAgg0
  z0 := Tryz.sizeOf0
  v0 := Tryz.zeroValue0
  t3 := Tryz.underlying3
  a3 := Tryz.isAgg3
  z3 := Tryz.sizeOf3
  v3 := Tryz.zeroValue3
  t4 := Tryz.underlying4
  a4 := Tryz.isAgg4
  z4 := Tryz.sizeOf4
  v4 := Tryz.zeroValue4
  t9 := Tryz.underlying9
  a9 := Tryz.isAgg9
  z9 := Tryz.sizeOf9
  v9 := Tryz.zeroValue9
  t31 := Tryz.underlying23
  a31 := Tryz.isAgg23
  z31 := Tryz.sizeOf23
  v31 := Tryz.zeroValue23
}
end Go.Ab
set_option linter.unusedVariables false
set_option linter.unusedSimpArgs false
set_option maxRecDepth 4000
namespace Go.Ab
open Go.Proofs Go.RowKit Go.Shelf Go.Sort

/-- What a function leaves in a row of its own. -/
structure Own (w0 : World) (l : List ByteArray) (w : World) (v : Value) : Prop where
  row : w.ownsRow w0.heap.size 9 1 v l.length (l.map Value.string)
  below : RowKit.Below w0.heap.size w0 w

theorem Own.raw {w0 w : World} {l : List ByteArray} {v : Value} (h : Own w0 l w v) : w.ownsRow w0.heap.size 9 1 v l.length ((l.map (·.data.toList)).map encStr) := by
  rw [Lib.map_encStr]; exact h.row

/-- A slice of strings in memory that lies below. -/
structure StrsAt (w : World) (v : Value) (l : List ByteArray) : Prop where
  form : ∃ a cap, v = .slice a l.length cap ∧ (a = none → l = []) ∧ ∀ ad, a = some ad → ∀ j (h : j < l.length), w.cell? (ad.add j) = some (.string l[j])

theorem StrsAt.later {w w' : World} {v : Value} {l : List ByteArray} (h : StrsAt w v l) (hb : RowKit.Below w.heap.size w w') : StrsAt w' v l := by
  obtain ⟨a, cap, e, h0, h1⟩ := h.form
  exact ⟨a, cap, e, h0, fun ad ha j hj => by rw [hb.cell (World.block_lt_of_cell? w _ (h1 ad ha j hj))]; exact h1 ad ha j hj⟩

theorem clone_k {w : World} {v : Value} {l : List ByteArray} (h : StrsAt w v l) (hl : l.length ≤ 4000) : Calls Tryz.prog 109 #[v] w fun e w' => ∃ v', e = .returned v' ∧ Own w l w' v' := by
  obtain ⟨a, cap, rfl, h0, h1⟩ := h.form
  cases a with
  | none =>
    obtain rfl := h0 rfl
    refine (calls_of_every_depth fun D => AnyS.slices_Clone_string_nil_in laysClone D 0 cap w).mono ?_
    rintro e w' ⟨rfl, rfl⟩
    exact ⟨_, rfl, ⟨World.ownsRow_nil _ _ _ _, .refl _ _⟩⟩
  | some ad =>
    by_cases hn : l = []
    · subst hn
      refine (calls_of_every_depth fun D => AnyS.slices_Clone_string_zero_in laysClone D ad cap w).mono ?_
      rintro e w' ⟨v', rfl, hown, _, hb⟩
      exact ⟨_, rfl, ⟨hown, hb⟩⟩
    · have hpos : 0 < l.length := List.length_pos_iff.2 hn
      have hs : ad = ⟨ad.block, ad.off, none⟩ := by
        have h2 := h1 ad rfl 0 hpos
        rw [add_zero] at h2
        cases ad with | mk b o s =>
        cases s with
        | none => rfl
        | some x =>
          simp only [World.cell?] at h2
          split at h2 <;> simp at h2
      rw [hs]
      refine (calls_of_every_depth fun D => AnyS.slices_Clone_string_in laysClone D ad.block ad.off l.length cap l w (Nat.le_refl _) (by omega) fun j hj => ?_).mono ?_
      · have h2 := h1 ad rfl j hj
        rw [hs, Addr.add_lit] at h2
        rw [List.getD_eq_getElem?_getD, List.getElem?_eq_getElem hj]
        exact h2
      · rintro e w' ⟨v', rfl, hown, _, hb⟩
        rw [List.take_length] at hown
        exact ⟨_, rfl, ⟨hown, hb⟩⟩

/-- append's answer, a row of the call's own. -/
theorem append_k {w0 w : World} {v x : Value} {l m : List ByteArray} (h : Own w0 l w v) (hx : StrsAt w x m) (hl : l.length ≤ 4000) (hm : m.length ≤ 4000) (ty : TypeId) :
    ∃ v' w', (Builtin.append_ #[23, 23] ty #[v, x]).run Tryz.prog w = .ok v' w' ∧ Own w0 (l ++ m) w' v' := by
  obtain ⟨a, cap, rfl, h0, h1⟩ := hx.form
  obtain ⟨i0, hi, hz0, hz1, hz2⟩ := info_parts laysClone.i9
  have hsize : w0.heap.size ≤ w.heap.size := h.below.size
  have key : ∀ (ad : Addr), (∀ j (h : j < m.length), w.cell? (ad.add j) = some (.string m[j])) → ∃ v' w', (Builtin.append_ #[23, 23] ty #[v, .slice (some ad) m.length cap]).run Tryz.prog w = .ok v' w' ∧ Own w0 (l ++ m) w' v' := fun ad h1 => by
    obtain ⟨v', w', hr, ho, hg, _⟩ := run_append_own (P := Tryz.prog) w w0.heap.size 23 ty 9 i0 _ 1 16 Tryz.underlying23 hi hz0 hz1 hz2 rfl (by decide) v l.length (l.map Value.string) h.row ad m.length cap (m.map Value.string) (by simp)
      (fun j u hj => by
        have hlt : j < m.length := by have := (List.getElem?_eq_some_iff.1 hj).1; simpa using this
        rw [h1 j hlt]
        rw [List.getElem?_map, List.getElem?_eq_getElem hlt] at hj
        exact hj) (fun u hu => by obtain ⟨y, _, rfl⟩ := List.mem_map.1 hu; rfl) (by unfold maxLen; omega) (by omega) hsize
    refine ⟨v', w', hr, ⟨by rw [List.length_append, List.map_append]; exact ho, h.below.grown hg hsize fun k hk => (h.row.lt k hk).1⟩⟩
  cases a with
  | some ad => exact key ad (h1 ad rfl)
  | none =>
    obtain rfl := h0 rfl
    refine ⟨v, w, ?_, by rw [List.append_nil]; exact h⟩
    have hi9 : Tryz.prog.info? 9 = some i0 := hi
    rcases h.row.2 with ⟨rfl, h2⟩ | ⟨g, c, cur, rfl, hb, hg, hn, hc, hs, ht⟩
    · simp [Builtin.append_, run_underlying Tryz.underlying23, sizeOf, typeInfo, hi9, Builtin.lenOf, Builtin.firstCells, loadCells, loadCellsFrom, h2]
    · simp [Builtin.append_, run_underlying Tryz.underlying23, sizeOf, typeInfo, hi9, Builtin.lenOf, Builtin.firstCells, loadCells, loadCellsFrom, storeCells, hn]
def ByteArray.bytes (b : ByteArray) : List UInt8 := b.data.toList
def ofBytes (l : List UInt8) : ByteArray := ⟨l.toArray⟩
theorem ofBytes_map (ls : List (List UInt8)) : (ls.map ofBytes).map Value.string = ls.map encStr := by
  rw [List.map_map]; rfl
theorem bytes_ofBytes (ls : List (List UInt8)) : (ls.map ofBytes).map (fun b => b.data.toList) = ls := by
  rw [List.map_map]
  conv => rhs; rw [← List.map_id ls]
  rfl
theorem ofBytes_bytes (l : List ByteArray) : (l.map (fun b => b.data.toList)).map ofBytes = l := by
  rw [List.map_map]
  conv => rhs; rw [← List.map_id l]
  rfl

def sortedS (l : List ByteArray) : List ByteArray := ((l.map (fun b => b.data.toList)).mergeSort fun x y => decide (x ≤ y)).map ofBytes
def compactS (l : List ByteArray) : List ByteArray := (Lib.compact (l.map (fun b => b.data.toList))).map ofBytes
theorem sortedS_length (l : List ByteArray) : (sortedS l).length = l.length := by simp [sortedS]
theorem compactS_length (l : List ByteArray) : (compactS l).length ≤ l.length := by
  have := Lib.compact_length_le (l.map (fun b => b.data.toList))
  simpa [compactS] using this
theorem mem_sortedS (l : List ByteArray) (n : ByteArray) : n ∈ sortedS l ↔ n ∈ l := by
  unfold sortedS
  rw [List.mem_map]
  constructor
  · rintro ⟨x, hx, rfl⟩
    have := (List.mergeSort_perm _ _).subset hx
    obtain ⟨y, hy, rfl⟩ := List.mem_map.1 this
    exact hy
  · intro h
    exact ⟨n.data.toList, (List.mergeSort_perm _ _).symm.subset (List.mem_map.2 ⟨n, h, rfl⟩), rfl⟩
theorem mem_compactUpTo {α : Type} [Inhabited α] [DecidableEq α] (d : Array α) : ∀ m, m ≤ d.size → ∀ j, j < m → d[j]! ∈ Lib.compactUpTo d m
  | 0, _, j, hj => by omega
  | m + 1, hm, j, hj => by
    have ih := mem_compactUpTo d m (by omega)
    rw [Lib.compactUpTo_succ]
    by_cases h : j < m
    · exact List.mem_append_left _ (ih j h)
    · have e : j = m := by omega
      subst e
      cases hk : Lib.keeps d j with
      | true => exact List.mem_append_right _ (by simp)
      | false =>
        have h2 : j ≠ 0 ∧ d[j]! = d[j - 1]! := by simpa [Lib.keeps] using hk
        rw [h2.2]
        exact List.mem_append_left _ (ih (j - 1) (by omega))
theorem compactUpTo_sub {α : Type} [Inhabited α] [DecidableEq α] (d : Array α) (m : Nat) (hm : m ≤ d.size) {x : α} (h : x ∈ Lib.compactUpTo d m) : x ∈ d := by
  unfold Lib.compactUpTo at h
  obtain ⟨j, hj, rfl⟩ := List.mem_map.1 h
  have := List.mem_range.1 (List.mem_filter.1 hj).1
  rw [getElem!_pos d j (by omega)]
  exact Array.getElem_mem _
theorem mem_compactS (l : List ByteArray) (n : ByteArray) : n ∈ compactS l ↔ n ∈ l := by
  unfold compactS
  rw [List.mem_map]
  constructor
  · rintro ⟨x, hx, rfl⟩
    have h := compactUpTo_sub _ _ (by simp) hx
    obtain ⟨y, hy, rfl⟩ := List.mem_map.1 (by simpa using h : x ∈ l.map fun b => b.data.toList)
    exact hy
  · intro h
    obtain ⟨j, hj, rfl⟩ := List.mem_iff_getElem.1 h
    refine ⟨l[j].data.toList, ?_, rfl⟩
    have := mem_compactUpTo (l.map fun b => b.data.toList).toArray (l.map fun b => b.data.toList).length (by simp) j (by simpa using hj)
    rw [getElem!_pos _ j (by simpa using hj)] at this
    unfold Lib.compact
    simpa using this

theorem sort_k {w0 w : World} {v : Value} {l : List ByteArray} (h : Own w0 l w v) (hl : l.length ≤ 8000) : Calls Tryz.prog 110 #[v] w fun e w' => e = .returned (.tuple #[]) ∧ Own w0 (sortedS l) w' v := by
  by_cases hv : v = .slice none 0 0
  · subst hv
    have hl0 : l = [] := by
      rcases h.row.2 with ⟨_, h2⟩ | ⟨g, c, cur, e, _⟩
      · exact List.eq_nil_of_length_eq_zero h2
      · cases e
    subst hl0
    refine (Any.slices_Sort_string_none laysSort none 0 w).mono ?_
    rintro e w' ⟨rfl, rfl⟩
    exact ⟨rfl, by rw [show sortedS [] = [] from List.eq_nil_of_length_eq_zero (sortedS_length [])]; exact h⟩
  · obtain ⟨g, cap, rfl, hb, hg, hn, hc, hlen, hH⟩ := Lib.holds_of_ownsRow h.raw hv
    have hs := calls_of_every_depth fun D => AnyS.slices_Sort_string_alone laysSort D g 0 cap _ w hH hg (by omega)
    rw [hlen] at hs
    refine hs.mono ?_
    rintro e w' ⟨rfl, nn, os, rfl⟩
    refine ⟨rfl, ?_, h.below.grown (grownBy_sorted _) h.below.size fun k hk => by cases hk; exact hb⟩
    rcases h.raw.2 with ⟨e0, _⟩ | ⟨g', cap', cur, e0, hbase, hbl, q1, q2, q3, q4⟩
    · exact absurd e0 hv
    · cases e0
      have := ownsRow_sorted (n := nn) (os := os) (ss := l.map fun b => b.data.toList) (ts := (l.map fun b => b.data.toList).mergeSort fun x y => decide (x ≤ y)) (by simp) hbase hbl (by simpa using q1) q2 q3
      rw [sortedS_length]
      unfold sortedS
      rw [ofBytes_map]
      simpa using this

theorem compact_k {w0 w : World} {v : Value} {l : List ByteArray} (h : Own w0 l w v) (hl : l.length ≤ 8000) : Calls Tryz.prog 111 #[v] w fun e w' => ∃ v', e = .returned v' ∧ Own w0 (compactS l) w' v' := by
  by_cases hv : v = .slice none 0 0
  · subst hv
    have hl0 : l = [] := by
      rcases h.row.2 with ⟨_, h2⟩ | ⟨g, c, cur, e, _⟩
      · exact List.eq_nil_of_length_eq_zero h2
      · cases e
    subst hl0
    refine (calls_of_every_depth fun D => AnyS.slices_Compact_string_empty_in laysCompact D none 0 w).mono ?_
    rintro e w' ⟨rfl, rfl⟩
    exact ⟨_, rfl, h⟩
  · obtain ⟨g, cap, rfl, hb, hg, hn, hc, hlen, hH⟩ := Lib.holds_of_ownsRow h.raw hv
    have hs := calls_of_every_depth fun D => AnyS.slices_Compact_string_in laysCompact D g 0 cap _ w hH (by omega) (by omega)
    rw [hlen] at hs
    refine hs.mono ?_
    rintro e w' ⟨rfl, q, rfl⟩
    have hle := Lib.compact_length_le (l.map fun b => b.data.toList)
    simp only [List.length_map] at hle
    refine ⟨_, rfl, ?_, Lib.below_putRow h.below hb⟩
    have hc := Lib.ownsRow_putRow (q := q) (k := (Lib.compact (l.map fun b => b.data.toList)).length) (ys := Lib.compact (l.map fun b => b.data.toList) ++ List.replicate (l.length - (Lib.compact (l.map fun b => b.data.toList)).length) []) h.raw (by simp; omega) (by omega)
    rw [List.take_left] at hc
    unfold compactS
    rw [ofBytes_map, List.length_map]
    exact hc

/-- append, at a step of a region that draws. -/
theorem step_append_k {ops : Array Oper} {o : Oper} {a : Act} {w0 w : World} {K : Act → World → Prop} {Q : Exit → Act → World → Prop} {E : Prop} (hg : o.guard = none) (s x : Operand) (hop : o.op = Op.call { callee := Callee.builtin Builtin.append, args := #[s, x], argTypes := #[23, 23] })
    {v y : Value} {l m : List ByteArray} (hs : a.eval s = v) (hx : a.eval x = y) (h : Own w0 l w v) (hy : StrsAt w y m) (hl : l.length ≤ 4000) (hm : m.length ≤ 4000)
    (hK : ∀ v' w', Own w0 (l ++ m) w' v' → K (a.put o.dst v') w') : if Region.wanted o (yielded ops a.tmps) = true then Oper.wp Tryz.prog o a w K Q else E := by
  have hw : Region.wanted o (yielded ops a.tmps) = true := by simp [Region.wanted, hg]
  rw [if_pos hw]
  obtain ⟨v', w', hr, ho⟩ := append_k h hy hl hm o.type
  unfold Oper.wp
  simp [execOp, hop, resolve, invoke, builtin, hs, hx, hr, Result.andThen]
  exact hK v' w' ho

end Go.Ab
