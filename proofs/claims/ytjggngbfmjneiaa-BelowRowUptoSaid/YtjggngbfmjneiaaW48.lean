import Derived.Test.YtjggngbfmjneiaaProg
import Derived.Shelf.Slices.In.Clone
import Derived.Shelf.Slices.In.CompactS
import Derived.Shelf.Slices.In.SortAlone
import Derived.Test.YtjggngbfmjneiaaPZ
import Derived.Deep.RegionLaw
import Derived.Deep.AppendLies
import Derived.Lib.OwnBridge
import Derived.Sort.OwnSorted
import Derived.Shelf.Slices.In.SortNone
set_option linter.unusedVariables false
set_option maxRecDepth 4000
namespace Go.Ab
open Go.Proofs
def renlaysClone : Go.Shelf.Ren := ⟨fun x => match x with
  | 16 => 107
  | n => n, fun x => match x with
  | 24 => 23
  | 9 => 9
  | 4 => 4
  | n => n, fun n => n⟩
theorem laysClone : Lays2.n16 Try.prog renlaysClone := {
  mixed := by kernel_rfl
  f16 := Eq.trans Try.func107 (by kernel_rfl)
  t4 := Try.underlying4
  a4 := Try.isAgg4
  z4 := Try.sizeOf4
  v4 := Try.zeroValue4
  t9 := Try.underlying9
  a9 := Try.isAgg9
  z9 := Try.sizeOf9
  v9 := Try.zeroValue9
  t24 := Try.underlying23
  a24 := Try.isAgg23
  z24 := Try.sizeOf23
  v24 := Try.zeroValue23
  i9 := by kernel_rfl
}
def renlaysSort : Go.Shelf.Ren := ⟨fun x => match x with
  | 190 => 108
  | 125 => 115
  | 258 => 114
  | 128 => 126
  | 129 => 127
  | 302 => 118
  | 303 => 119
  | 304 => 120
  | 305 => 121
  | 306 => 122
  | 307 => 123
  | 308 => 116
  | 309 => 124
  | 310 => 125
  | 333 => 128
  | 329 => 129
  | 330 => 130
  | 334 => 131
  | 335 => 132
  | 336 => 92
  | 344 => 133
  | n => n, fun x => match x with
  | 31 => 23
  | 9 => 9
  | 3 => 3
  | 46 => 121
  | 0 => 0
  | 51 => 131
  | 53 => 133
  | 4 => 4
  | 183 => 125
  | 182 => 124
  | 131 => 115
  | 5 => 5
  | 218 => 134
  | 222 => 138
  | 228 => 140
  | 229 => 141
  | n => n, fun n => n⟩
theorem laysSort : Lays.n190 Try.prog renlaysSort := {
  mixed := by kernel_rfl
  f125 := Eq.trans Try.func115 (by kernel_rfl)
  f128 := Eq.trans Try.func126 (by kernel_rfl)
  f129 := Eq.trans Try.func127 (by kernel_rfl)
  f190 := Eq.trans Try.func108 (by kernel_rfl)
  f258 := Eq.trans Try.func114 (by kernel_rfl)
  f302 := Eq.trans Try.func118 (by kernel_rfl)
  f303 := Eq.trans Try.func119 (by kernel_rfl)
  f304 := Eq.trans Try.func120 (by kernel_rfl)
  f305 := Eq.trans Try.func121 (by kernel_rfl)
  f306 := Eq.trans Try.func122 (by kernel_rfl)
  f307 := Eq.trans Try.func123 (by kernel_rfl)
  f308 := Eq.trans Try.func116 (by kernel_rfl)
  f309 := Eq.trans Try.func124 (by kernel_rfl)
  f310 := Eq.trans Try.func125 (by kernel_rfl)
  f329 := Eq.trans Try.func129 (by kernel_rfl)
  f330 := Eq.trans Try.func130 (by kernel_rfl)
  f333 := Eq.trans Try.func128 (by kernel_rfl)
  f334 := Eq.trans Try.func131 (by kernel_rfl)
  f335 := Eq.trans Try.func132 (by kernel_rfl)
  f336 := Eq.trans Try.func92 (by kernel_rfl)
  f344 := Eq.trans Try.func133 (by kernel_rfl)
  t0 := Try.underlying0
  a0 := Try.isAgg0
  z0 := Try.sizeOf0
  v0 := Try.zeroValue0
  t3 := Try.underlying3
  a3 := Try.isAgg3
  z3 := Try.sizeOf3
  v3 := Try.zeroValue3
  t4 := Try.underlying4
  a4 := Try.isAgg4
  z4 := Try.sizeOf4
  v4 := Try.zeroValue4
  t5 := Try.underlying5
  a5 := Try.isAgg5
  z5 := Try.sizeOf5
  v5 := Try.zeroValue5
  t9 := Try.underlying9
  a9 := Try.isAgg9
  z9 := Try.sizeOf9
  v9 := Try.zeroValue9
  t31 := Try.underlying23
  a31 := Try.isAgg23
  z31 := Try.sizeOf23
  v31 := Try.zeroValue23
  t46 := Try.underlying121
  a46 := Try.isAgg121
  z46 := Try.sizeOf121
  v46 := Try.zeroValue121
  t51 := Try.underlying131
  a51 := Try.isAgg131
  z51 := Try.sizeOf131
  v51 := Try.zeroValue131
  t53 := Try.underlying133
  a53 := Try.isAgg133
  z53 := Try.sizeOf133
  v53 := Try.zeroValue133
  t131 := Try.underlying115
  a131 := Try.isAgg115
  z131 := Try.sizeOf115
  v131 := Try.zeroValue115
  t182 := Try.underlying124
  a182 := Try.isAgg124
  z182 := Try.sizeOf124
  v182 := Try.zeroValue124
  t183 := Try.underlying125
  a183 := Try.isAgg125
  z183 := Try.sizeOf125
  v183 := Try.zeroValue125
  t218 := Try.underlying134
  a218 := Try.isAgg134
  z218 := Try.sizeOf134
  v218 := Try.zeroValue134
  t222 := Try.underlying138
  a222 := Try.isAgg138
  z222 := Try.sizeOf138
  v222 := Try.zeroValue138
  t228 := Try.underlying140
  a228 := Try.isAgg140
  z228 := Try.sizeOf140
  v228 := Try.zeroValue140
  t229 := Try.underlying141
  a229 := Try.isAgg141
  z229 := Try.sizeOf141
  v229 := Try.zeroValue141
}
def renlaysCompact : Go.Shelf.Ren := ⟨fun x => match x with
  | 194 => 109
  | n => n, fun x => match x with
  | 31 => 23
  | 9 => 9
  | 3 => 3
  | 4 => 4
  | 0 => 0
  | n => n, fun n => n⟩
theorem laysCompact : Lays.n194 Try.prog renlaysCompact := {
  mixed := by kernel_rfl
  f194 := Eq.trans Try.func109 (by kernel_rfl)
  t0 := Try.underlying0
  a0 := Try.isAgg0
  z0 := Try.sizeOf0
  v0 := Try.zeroValue0
  t3 := Try.underlying3
  a3 := Try.isAgg3
  z3 := Try.sizeOf3
  v3 := Try.zeroValue3
  t4 := Try.underlying4
  a4 := Try.isAgg4
  z4 := Try.sizeOf4
  v4 := Try.zeroValue4
  t9 := Try.underlying9
  a9 := Try.isAgg9
  z9 := Try.sizeOf9
  v9 := Try.zeroValue9
  t31 := Try.underlying23
  a31 := Try.isAgg23
  z31 := Try.sizeOf23
  v31 := Try.zeroValue23
}
end Go.Ab
set_option linter.unusedVariables false
set_option linter.unusedSimpArgs false
set_option maxRecDepth 4000
namespace Go.Ab
open Go.Proofs Go.RowKit Go.Shelf Go.Sort

/-- What a function leaves in a row of its own. -/
structure Own (w0 : World) (l : List ByteArray) (w : World) (v : Value) : Prop where
  row : w.ownsRow w0.heap.size 9 1 v l.length (l.map Value.string)
  below : RowKit.Below w0.heap.size w0 w

theorem Own.raw {w0 w : World} {l : List ByteArray} {v : Value} (h : Own w0 l w v) : w.ownsRow w0.heap.size 9 1 v l.length ((l.map (·.data.toList)).map encStr) := by
  rw [Lib.map_encStr]; exact h.row

/-- A slice of strings in memory that lies below. -/
structure StrsAt (w : World) (v : Value) (l : List ByteArray) : Prop where
  form : ∃ a cap, v = .slice a l.length cap ∧ (a = none → l = []) ∧ ∀ ad, a = some ad → ∀ j (h : j < l.length), w.cell? (ad.add j) = some (.string l[j])

theorem StrsAt.later {w w' : World} {v : Value} {l : List ByteArray} (h : StrsAt w v l) (hb : RowKit.Below w.heap.size w w') : StrsAt w' v l := by
  obtain ⟨a, cap, e, h0, h1⟩ := h.form
  exact ⟨a, cap, e, h0, fun ad ha j hj => by rw [hb.cell (World.block_lt_of_cell? w _ (h1 ad ha j hj))]; exact h1 ad ha j hj⟩

theorem clone_k {w : World} {v : Value} {l : List ByteArray} (h : StrsAt w v l) (hl : l.length ≤ 4000) : Calls Try.prog 107 #[v] w fun e w' => ∃ v', e = .returned v' ∧ Own w l w' v' := by
  obtain ⟨a, cap, rfl, h0, h1⟩ := h.form
  cases a with
  | none =>
    obtain rfl := h0 rfl
    refine (calls_of_every_depth fun D => AnyS.slices_Clone_string_nil_in laysClone D 0 cap w).mono ?_
    rintro e w' ⟨rfl, rfl⟩
    exact ⟨_, rfl, ⟨World.ownsRow_nil _ _ _ _, .refl _ _⟩⟩
  | some ad =>
    by_cases hn : l = []
    · subst hn
      refine (calls_of_every_depth fun D => AnyS.slices_Clone_string_zero_in laysClone D ad cap w).mono ?_
      rintro e w' ⟨v', rfl, hown, _, hb⟩
      exact ⟨_, rfl, ⟨hown, hb⟩⟩
    · have hpos : 0 < l.length := List.length_pos_iff.2 hn
      have hs : ad = ⟨ad.block, ad.off, none⟩ := by
        have h2 := h1 ad rfl 0 hpos
        rw [add_zero] at h2
        cases ad with | mk b o s =>
        cases s with
        | none => rfl
        | some x =>
          simp only [World.cell?] at h2
          split at h2 <;> simp at h2
      rw [hs]
      refine (calls_of_every_depth fun D => AnyS.slices_Clone_string_in laysClone D ad.block ad.off l.length cap l w (Nat.le_refl _) (by omega) fun j hj => ?_).mono ?_
      · have h2 := h1 ad rfl j hj
        rw [hs, Addr.add_lit] at h2
        rw [List.getD_eq_getElem?_getD, List.getElem?_eq_getElem hj]
        exact h2
      · rintro e w' ⟨v', rfl, hown, _, hb⟩
        rw [List.take_length] at hown
        exact ⟨_, rfl, ⟨hown, hb⟩⟩

/-- append's answer, a row of the call's own. -/
theorem append_k {w0 w : World} {v x : Value} {l m : List ByteArray} (h : Own w0 l w v) (hx : StrsAt w x m) (hl : l.length ≤ 4000) (hm : m.length ≤ 4000) (ty : TypeId) :
    ∃ v' w', (Builtin.append_ #[23, 23] ty #[v, x]).run Try.prog w = .ok v' w' ∧ Own w0 (l ++ m) w' v' := by
  obtain ⟨a, cap, rfl, h0, h1⟩ := hx.form
  obtain ⟨i0, hi, hz0, hz1, hz2⟩ := info_parts laysClone.i9
  have hsize : w0.heap.size ≤ w.heap.size := h.below.size
  have key : ∀ (ad : Addr), (∀ j (h : j < m.length), w.cell? (ad.add j) = some (.string m[j])) → ∃ v' w', (Builtin.append_ #[23, 23] ty #[v, .slice (some ad) m.length cap]).run Try.prog w = .ok v' w' ∧ Own w0 (l ++ m) w' v' := fun ad h1 => by
    obtain ⟨v', w', hr, ho, hg, _⟩ := run_append_own (P := Try.prog) w w0.heap.size 23 ty 9 i0 _ 1 16 Try.underlying23 hi hz0 hz1 hz2 rfl (by decide) v l.length (l.map Value.string) h.row ad m.length cap (m.map Value.string) (by simp)
      (fun j u hj => by
        have hlt : j < m.length := by have := (List.getElem?_eq_some_iff.1 hj).1; simpa using this
        rw [h1 j hlt]
        rw [List.getElem?_map, List.getElem?_eq_getElem hlt] at hj
        exact hj) (fun u hu => by obtain ⟨y, _, rfl⟩ := List.mem_map.1 hu; rfl) (by unfold maxLen; omega) (by omega) hsize
    refine ⟨v', w', hr, ⟨by rw [List.length_append, List.map_append]; exact ho, h.below.grown hg hsize fun k hk => (h.row.lt k hk).1⟩⟩
  cases a with
  | some ad => exact key ad (h1 ad rfl)
  | none =>
    obtain rfl := h0 rfl
    refine ⟨v, w, ?_, by rw [List.append_nil]; exact h⟩
    have hi9 : Try.prog.info? 9 = some i0 := hi
    rcases h.row.2 with ⟨rfl, h2⟩ | ⟨g, c, cur, rfl, hb, hg, hn, hc, hs, ht⟩
    · simp [Builtin.append_, run_underlying Try.underlying23, sizeOf, typeInfo, hi9, Builtin.lenOf, Builtin.firstCells, loadCells, loadCellsFrom, h2]
    · simp [Builtin.append_, run_underlying Try.underlying23, sizeOf, typeInfo, hi9, Builtin.lenOf, Builtin.firstCells, loadCells, loadCellsFrom, storeCells, hn]
def ByteArray.bytes (b : ByteArray) : List UInt8 := b.data.toList
def ofBytes (l : List UInt8) : ByteArray := ⟨l.toArray⟩
theorem ofBytes_map (ls : List (List UInt8)) : (ls.map ofBytes).map Value.string = ls.map encStr := by
  rw [List.map_map]; rfl
theorem bytes_ofBytes (ls : List (List UInt8)) : (ls.map ofBytes).map (fun b => b.data.toList) = ls := by
  rw [List.map_map]
  conv => rhs; rw [← List.map_id ls]
  rfl
theorem ofBytes_bytes (l : List ByteArray) : (l.map (fun b => b.data.toList)).map ofBytes = l := by
  rw [List.map_map]
  conv => rhs; rw [← List.map_id l]
  rfl

def sortedS (l : List ByteArray) : List ByteArray := ((l.map (fun b => b.data.toList)).mergeSort fun x y => decide (x ≤ y)).map ofBytes
def compactS (l : List ByteArray) : List ByteArray := (Lib.compact (l.map (fun b => b.data.toList))).map ofBytes
theorem sortedS_length (l : List ByteArray) : (sortedS l).length = l.length := by simp [sortedS]
theorem compactS_length (l : List ByteArray) : (compactS l).length ≤ l.length := by
  have := Lib.compact_length_le (l.map (fun b => b.data.toList))
  simpa [compactS] using this
theorem mem_sortedS (l : List ByteArray) (n : ByteArray) : n ∈ sortedS l ↔ n ∈ l := by
  unfold sortedS
  rw [List.mem_map]
  constructor
  · rintro ⟨x, hx, rfl⟩
    have := (List.mergeSort_perm _ _).subset hx
    obtain ⟨y, hy, rfl⟩ := List.mem_map.1 this
    exact hy
  · intro h
    exact ⟨n.data.toList, (List.mergeSort_perm _ _).symm.subset (List.mem_map.2 ⟨n, h, rfl⟩), rfl⟩
theorem mem_compactUpTo {α : Type} [Inhabited α] [DecidableEq α] (d : Array α) : ∀ m, m ≤ d.size → ∀ j, j < m → d[j]! ∈ Lib.compactUpTo d m
  | 0, _, j, hj => by omega
  | m + 1, hm, j, hj => by
    have ih := mem_compactUpTo d m (by omega)
    rw [Lib.compactUpTo_succ]
    by_cases h : j < m
    · exact List.mem_append_left _ (ih j h)
    · have e : j = m := by omega
      subst e
      cases hk : Lib.keeps d j with
      | true => exact List.mem_append_right _ (by simp)
      | false =>
        have h2 : j ≠ 0 ∧ d[j]! = d[j - 1]! := by simpa [Lib.keeps] using hk
        rw [h2.2]
        exact List.mem_append_left _ (ih (j - 1) (by omega))
theorem compactUpTo_sub {α : Type} [Inhabited α] [DecidableEq α] (d : Array α) (m : Nat) (hm : m ≤ d.size) {x : α} (h : x ∈ Lib.compactUpTo d m) : x ∈ d := by
  unfold Lib.compactUpTo at h
  obtain ⟨j, hj, rfl⟩ := List.mem_map.1 h
  have := List.mem_range.1 (List.mem_filter.1 hj).1
  rw [getElem!_pos d j (by omega)]
  exact Array.getElem_mem _
theorem mem_compactS (l : List ByteArray) (n : ByteArray) : n ∈ compactS l ↔ n ∈ l := by
  unfold compactS
  rw [List.mem_map]
  constructor
  · rintro ⟨x, hx, rfl⟩
    have h := compactUpTo_sub _ _ (by simp) hx
    obtain ⟨y, hy, rfl⟩ := List.mem_map.1 (by simpa using h : x ∈ l.map fun b => b.data.toList)
    exact hy
  · intro h
    obtain ⟨j, hj, rfl⟩ := List.mem_iff_getElem.1 h
    refine ⟨l[j].data.toList, ?_, rfl⟩
    have := mem_compactUpTo (l.map fun b => b.data.toList).toArray (l.map fun b => b.data.toList).length (by simp) j (by simpa using hj)
    rw [getElem!_pos _ j (by simpa using hj)] at this
    unfold Lib.compact
    simpa using this

theorem sort_k {w0 w : World} {v : Value} {l : List ByteArray} (h : Own w0 l w v) (hl : l.length ≤ 8000) : Calls Try.prog 108 #[v] w fun e w' => e = .returned (.tuple #[]) ∧ Own w0 (sortedS l) w' v := by
  by_cases hv : v = .slice none 0 0
  · subst hv
    have hl0 : l = [] := by
      rcases h.row.2 with ⟨_, h2⟩ | ⟨g, c, cur, e, _⟩
      · exact List.eq_nil_of_length_eq_zero h2
      · cases e
    subst hl0
    refine (Any.slices_Sort_string_none laysSort none 0 w).mono ?_
    rintro e w' ⟨rfl, rfl⟩
    exact ⟨rfl, by rw [show sortedS [] = [] from List.eq_nil_of_length_eq_zero (sortedS_length [])]; exact h⟩
  · obtain ⟨g, cap, rfl, hb, hg, hn, hc, hlen, hH⟩ := Lib.holds_of_ownsRow h.raw hv
    have hs := calls_of_every_depth fun D => AnyS.slices_Sort_string_alone laysSort D g 0 cap _ w hH hg (by omega)
    rw [hlen] at hs
    refine hs.mono ?_
    rintro e w' ⟨rfl, nn, os, rfl⟩
    refine ⟨rfl, ?_, h.below.grown (grownBy_sorted _) h.below.size fun k hk => by cases hk; exact hb⟩
    rcases h.raw.2 with ⟨e0, _⟩ | ⟨g', cap', cur, e0, hbase, hbl, q1, q2, q3, q4⟩
    · exact absurd e0 hv
    · cases e0
      have := ownsRow_sorted (n := nn) (os := os) (ss := l.map fun b => b.data.toList) (ts := (l.map fun b => b.data.toList).mergeSort fun x y => decide (x ≤ y)) (by simp) hbase hbl (by simpa using q1) q2 q3
      rw [sortedS_length]
      unfold sortedS
      rw [ofBytes_map]
      simpa using this

theorem compact_k {w0 w : World} {v : Value} {l : List ByteArray} (h : Own w0 l w v) (hl : l.length ≤ 8000) : Calls Try.prog 109 #[v] w fun e w' => ∃ v', e = .returned v' ∧ Own w0 (compactS l) w' v' := by
  by_cases hv : v = .slice none 0 0
  · subst hv
    have hl0 : l = [] := by
      rcases h.row.2 with ⟨_, h2⟩ | ⟨g, c, cur, e, _⟩
      · exact List.eq_nil_of_length_eq_zero h2
      · cases e
    subst hl0
    refine (calls_of_every_depth fun D => AnyS.slices_Compact_string_empty_in laysCompact D none 0 w).mono ?_
    rintro e w' ⟨rfl, rfl⟩
    exact ⟨_, rfl, h⟩
  · obtain ⟨g, cap, rfl, hb, hg, hn, hc, hlen, hH⟩ := Lib.holds_of_ownsRow h.raw hv
    have hs := calls_of_every_depth fun D => AnyS.slices_Compact_string_in laysCompact D g 0 cap _ w hH (by omega) (by omega)
    rw [hlen] at hs
    refine hs.mono ?_
    rintro e w' ⟨rfl, q, rfl⟩
    have hle := Lib.compact_length_le (l.map fun b => b.data.toList)
    simp only [List.length_map] at hle
    refine ⟨_, rfl, ?_, Lib.below_putRow h.below hb⟩
    have hc := Lib.ownsRow_putRow (q := q) (k := (Lib.compact (l.map fun b => b.data.toList)).length) (ys := Lib.compact (l.map fun b => b.data.toList) ++ List.replicate (l.length - (Lib.compact (l.map fun b => b.data.toList)).length) []) h.raw (by simp; omega) (by omega)
    rw [List.take_left] at hc
    unfold compactS
    rw [ofBytes_map, List.length_map]
    exact hc

/-- append, at a step of a region that draws. -/
theorem step_append_k {ops : Array Oper} {o : Oper} {a : Act} {w0 w : World} {K : Act → World → Prop} {Q : Exit → Act → World → Prop} {E : Prop} (hg : o.guard = none) (s x : Operand) (hop : o.op = Op.call { callee := Callee.builtin Builtin.append, args := #[s, x], argTypes := #[23, 23] })
    {v y : Value} {l m : List ByteArray} (hs : a.eval s = v) (hx : a.eval x = y) (h : Own w0 l w v) (hy : StrsAt w y m) (hl : l.length ≤ 4000) (hm : m.length ≤ 4000)
    (hK : ∀ v' w', Own w0 (l ++ m) w' v' → K (a.put o.dst v') w') : if Region.wanted o (yielded ops a.tmps) = true then Oper.wp Try.prog o a w K Q else E := by
  have hw : Region.wanted o (yielded ops a.tmps) = true := by simp [Region.wanted, hg]
  rw [if_pos hw]
  obtain ⟨v', w', hr, ho⟩ := append_k h hy hl hm o.type
  unfold Oper.wp
  simp [execOp, hop, resolve, invoke, builtin, hs, hx, hr, Result.andThen]
  exact hK v' w' ho

end Go.Ab
