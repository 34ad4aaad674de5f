import Derived.Test.YtjggngbfmjneiaaGreatPY
set_option linter.unusedVariables false
set_option linter.unusedSimpArgs false
namespace Go.Ab
open Go.RowKit
section
variable {P : Program}
/-- A contract of the kit's, as one of ours; what the call made for itself may be read from then on. -/
theorem PCall.of_callsF {k : FuncId} {args : List V} {r : V} (hr : r.pure = true) (ha : pures args = true) (he : Enters P k)
    (h : ∀ (F : Mem) (w : World) (vals : List Value), groundMem.le F → (∀ a v, F a = some v → w.cell? a = some v) → Reps F [] vals args → Calls P k vals.toArray w fun e w' => ∃ v F', e = .returned v ∧ F.le F' ∧ (∀ a u, F' a = some u → w'.cell? a = some u) ∧ (∀ a, F a = none → F' a ≠ none → w.heap.size ≤ a.block) ∧ Rep F' [] v r ∧ Below w.heap.size w w') : PCall P k args r := by
  refine ⟨hr, ha, ⟨he, fun F M w vals hi hreps => ?_⟩⟩
  have hM : M = [] := List.eq_nil_of_length_eq_zero (by rw [hi.len]; rfl)
  subst hM
  refine (h F w vals hi.gnd hi.cells hreps).mono ?_
  rintro e w' ⟨v, F', rfl, hle, hc, hnew, hv, hb⟩
  exact ⟨v, r, [], F', [], rfl, rfl, hv, ⟨hc, rfl, fun i o p h => by simp at h, fun i j o o' p p' b _ h => by simp at h, fun i p b h => by simp at h, hi.gnd.trans hle⟩,
    ⟨hle, .refl _, hb.size, hb.os, hb.tape, hb.output, fun k hk _ => hb.block k hk, fun a h h' => .inl (hnew a h h'), fun i p b h => by simp at h⟩⟩
end

/-- Where strings lie. -/
structure StrsIn (F : Mem) (v : Value) (l : List ByteArray) : Prop where
  form : ∃ a cap, v = .slice a l.length cap ∧ (a = none → l = []) ∧ ∀ ad, a = some ad → ∀ j (h : j < l.length), F (ad.add j) = some (.string l[j])
  lits : ∀ s ∈ l, litOk (.string s) = true
theorem strsIn_of {F : Mem} {v : Value} {l : List ByteArray} (h : RepD F v (.sl (l.map strC))) : StrsIn F v l := by
  cases h with
  | sl a cap sz rows vals hrow hlen hcap ha hr =>
    have hsz : 0 < l.length → sz = 1 := fun hp => by
      have := hrow (strC l[0]) (List.mem_map.2 ⟨_, List.getElem_mem hp, rfl⟩)
      rw [← this]; rfl
    have hval : ∀ j (h : j < l.length), vals j = .string l[j] ∧ litOk (.string l[j]) = true := fun j hj => by
      have e := hsz (by omega)
      subst e
      have h1 := hr j 0 (by simpa using hj) (by omega)
      have e1 : (((l.map strC).getD j []).getD 0 default) = .lit (.string l[j]) := by
        have e0 : (l.map strC).getD j [] = strC l[j] := by rw [List.getD_eq_getElem?_getD, List.getElem?_map, List.getElem?_eq_getElem hj]; rfl
        rw [e0]; rfl
      rw [e1, Nat.mul_one, Nat.add_zero] at h1
      generalize hv : vals j = u at h1
      cases h1 with
      | lit v h => exact ⟨rfl, h⟩
    refine ⟨⟨a, cap, by rw [List.length_map], fun e => ?_, fun ad e j hj => ?_⟩, fun s hs => ?_⟩
    · subst e
      by_cases hp : 0 < l.length
      · obtain ⟨ad, h1, _⟩ := ha (by rw [hsz hp]; simpa using hp)
        cases h1
      · exact List.eq_nil_of_length_eq_zero (by omega)
    · subst e
      have e2 := hsz (by omega)
      subst e2
      obtain ⟨ad', h1, h2⟩ := ha (by simp; omega)
      cases h1
      rw [h2 j (by simpa using hj), (hval j hj).1]
    · obtain ⟨j, hj, rfl⟩ := List.mem_iff_getElem.1 hs
      exact (hval j hj).2
theorem strs_repD {F : Mem} {a : Option Addr} {cap : Nat} {l : List ByteArray} (h0 : a = none → l = []) (h1 : ∀ ad, a = some ad → ∀ j (h : j < l.length), F (ad.add j) = some (.string l[j])) (hl : ∀ s ∈ l, litOk (.string s) = true) (hn : l.length ≤ maxRows) (hc : l.length ≤ cap) :
    RepD F (.slice a l.length cap) (.sl (l.map strC)) := by
  have := RepD.sl (F := F) a cap 1 (l.map strC) (fun j => .string (l.getD j ⟨#[]⟩)) (fun r hr => by obtain ⟨s, _, rfl⟩ := List.mem_map.1 hr; rfl) (by simpa using hn) (by simpa using hc) (fun hp => by
    cases a with
    | none => rw [h0 rfl] at hp; simp at hp
    | some ad =>
      refine ⟨ad, rfl, fun k hk => ?_⟩
      have hk : k < l.length := by simpa using hk
      rw [h1 ad rfl k hk, List.getD_eq_getElem?_getD, List.getElem?_eq_getElem hk]; rfl) (fun i j hi hj => by
    have hi : i < l.length := by simpa using hi
    have hj : j = 0 := by omega
    subst hj
    have e1 : (((l.map strC).getD i []).getD 0 default) = .lit (.string l[i]) := by
      have e0 : (l.map strC).getD i [] = strC l[i] := by rw [List.getD_eq_getElem?_getD, List.getElem?_map, List.getElem?_eq_getElem hi]; rfl
      rw [e0]; rfl
    rw [e1, Nat.mul_one, Nat.add_zero, List.getD_eq_getElem?_getD, List.getElem?_eq_getElem hi]
    exact .lit _ (hl _ (List.getElem_mem hi)))
  rwa [List.length_map] at this
end Go.Ab
