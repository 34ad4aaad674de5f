import Derived.Test.YtjggngbfmjneiaaGreatW50
import Derived.Test.YtjggngbfmjneiaaGreatW40
import Derived.Test.YtjggngbfmjneiaaGreatPYb
set_option linter.unusedVariables false
set_option linter.unusedSimpArgs false
set_option maxRecDepth 4000
namespace Go.Ab
open Go.Proofs

theorem own_rep {F : Mem} {w w' : World} {v : Value} {l : List ByteArray} (hF : ∀ a v, F a = some v → w.cell? a = some v) (h : Own w l w' v) (hl : ∀ s ∈ l, litOk (.string s) = true) (hn : l.length ≤ maxRows) :
    ∃ F' : Mem, F.le F' ∧ (∀ a u, F' a = some u → w'.cell? a = some u) ∧ (∀ a, F a = none → F' a ≠ none → w.heap.size ≤ a.block) ∧ Rep F' [] v (vStrs l) := by
  have hold : ∀ a u, F a = some u → w'.cell? a = some u := fun a u ha => by
    have hc := hF a u ha
    rw [h.below.cell (World.block_lt_of_cell? w a hc)]; exact hc
  rcases h.row.2 with ⟨rfl, h0⟩ | ⟨g, cap, cur, rfl, hb, hg, hnc, hc, hs, ht⟩
  · have hl0 : l = [] := List.eq_nil_of_length_eq_zero h0
    subst hl0
    exact ⟨F, .refl _, hold, fun a h1 h2 => absurd h1 h2, .d (strs_repD (fun _ => rfl) (fun ad e => by cases e) hl hn (Nat.le_refl _))⟩
  · have hcell : ∀ j (h : j < l.length), w'.cell? ⟨g, j, none⟩ = some (.string l[j]) := fun j hj => by
      rw [cell_of hg]
      have h1 : (cur.toList.take (l.length * 1))[j]? = some (.string l[j]) := by
        rw [ht, List.getElem?_map, List.getElem?_eq_getElem hj]; rfl
      rw [List.getElem?_take, if_pos (by omega)] at h1
      simpa using h1
    have hFg : ∀ a u, F a = some u → a.block ≠ g := fun a u ha => by
      have := World.block_lt_of_cell? w a (hF a u ha)
      omega
    refine ⟨fun a => if a.block = g ∧ a.spot = none then (l[a.off]?).map Value.string else F a, fun a u ha => ?_, fun a u ha => ?_, fun a h1 h2 => ?_, .d (strs_repD (fun e => by cases e) (fun ad e j hj => ?_) hl hn hnc)⟩
    · have := hFg a u ha
      simp [this]; exact ha
    · by_cases e : a.block = g ∧ a.spot = none
      · simp only [e, and_self, if_true] at ha
        obtain ⟨b, o, s⟩ := a
        obtain ⟨rfl, rfl⟩ := e
        by_cases ho : o < l.length
        · simp [List.getElem?_eq_getElem ho] at ha
          subst ha
          exact hcell o ho
        · simp [List.getElem?_eq_none (Nat.le_of_not_lt ho)] at ha
      · have ha : F a = some u := by simpa only [if_neg e] using ha
        exact hold a u ha
    · by_cases e : a.block = g ∧ a.spot = none
      · rw [e.1]; exact hb
      · exact absurd h1 (by simpa only [if_neg e] using h2)
    · cases e
      rw [add_block]
      simp [List.getElem?_eq_getElem hj]

theorem names_c : NamesC := fun a b ha hb => by
  refine ⟨compactS (sortedS (a.names ++ b.names)), ?_, ?_, fun n => by rw [mem_compactS, mem_sortedS, List.mem_append]; rfl⟩
  · have := compactS_length (sortedS (a.names ++ b.names))
    rw [sortedS_length, List.length_append] at this
    omega
  · refine PCall.of_callsF rfl rfl (enters_of Tryz.func99 rfl (by decide)) fun F w vals hg hF hreps => ?_
    obtain ⟨hlen, hr⟩ := hreps
    obtain ⟨va, vb, rfl⟩ : ∃ va vb, vals = [va, vb] := by
      match vals, hlen with
      | [va, vb], _ => exact ⟨va, vb, rfl⟩
    have open_ob : ∀ (v : Value) (o : Ob), Rep F [] v (vOb o) → ∃ x0 x1 x2 x3 x4 x5 x6 x7 x8 x9 xa xb, v = .agg #[x0, x1, x2, x3, x4, x5, x6, x7, x8, x9, xa, xb] ∧ StrsIn F x0 o.names := fun v o h => by
      have h' : Rep F [] v (.agg (o.lay.map .d)) := h
      generalize he : o.lay.map V.d = cells at h'
      cases h' with
      | agg cs _ hs hr =>
        subst he
        have hs : cs.size = 12 := hs
        obtain ⟨cl⟩ := cs
        match cl, hs, hr with
        | [x0, x1, x2, x3, x4, x5, x6, x7, x8, x9, xa, xb], _, hr =>
          refine ⟨_, _, _, _, _, _, _, _, _, _, _, _, rfl, strsIn_of ?_⟩
          have h2 : Rep F [] x0 (.d (.sl (o.names.map strC))) := hr 0 (Nat.zero_lt_succ _)
          generalize he2 : (D.sl (o.names.map strC)) = y at h2
          cases h2 with
          | d h2 => exact h2
    obtain ⟨x0, x1, x2, x3, x4, x5, x6, x7, x8, x9, xa, xb, rfl, hx⟩ := open_ob va a (hr 0 (Nat.zero_lt_succ _))
    obtain ⟨y0, y1, y2, y3, y4, y5, y6, y7, y8, y9, ya, yb, rfl, hy⟩ := open_ob vb b (hr 1 (Nat.lt_succ_self 1))
    have at' : ∀ {v : Value} {l : List ByteArray}, StrsIn F v l → StrsAt w v l := fun h => by
      obtain ⟨a, cap, e, h0, h1⟩ := h.form
      exact ⟨a, cap, e, h0, fun ad ha j hj => hF _ _ (h1 ad ha j hj)⟩
    refine (names_k w x0 x1 x2 x3 x4 x5 x6 x7 x8 x9 xa xb y0 y1 y2 y3 y4 y5 y6 y7 y8 y9 ya yb a.names b.names (at' hx) (at' hy) ha hb).mono ?_
    rintro e w' ⟨v', rfl, hown⟩
    have hlen : (compactS (sortedS (a.names ++ b.names))).length ≤ maxRows := by
      have := compactS_length (sortedS (a.names ++ b.names))
      rw [sortedS_length, List.length_append] at this
      unfold maxRows
      omega
    obtain ⟨F', h1, h2, h3, h4⟩ := own_rep hF hown (fun s hs => by
      rw [mem_compactS, mem_sortedS, List.mem_append] at hs
      rcases hs with hs | hs
      · exact hx.lits s hs
      · exact hy.lits s hs) hlen
    exact ⟨v', F', rfl, h1, h2, h3, h4, hown.below⟩
end Go.Ab
