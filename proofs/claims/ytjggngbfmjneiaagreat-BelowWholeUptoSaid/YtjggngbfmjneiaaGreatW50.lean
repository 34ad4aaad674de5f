import Derived.Test.YtjggngbfmjneiaaGreatW48
import Derived.Deep.RegionHeld3
set_option linter.unusedVariables false
set_option linter.unusedSimpArgs false
set_option maxRecDepth 100000
namespace Go.Ab
open Go.Proofs Go.RowKit Go.Shelf Go.Sort

theorem Own.base {w0 w1 w : World} {l : List ByteArray} {v : Value} (h : Own w1 l w v) (hb : RowKit.Below w0.heap.size w0 w1) : Own w0 l w v := by
  have hs := hb.size
  refine ⟨⟨h.row.1, ?_⟩, hb.trans (h.below.mono hs)⟩
  rcases h.row.2 with h1 | ⟨g, c, cur, e, h1, h2⟩
  · exact .inl h1
  · exact .inr ⟨g, c, cur, e, by omega, h2⟩
theorem alloc_size (w : World) (o : Obj) : (w.alloc o).heap.size = w.heap.size + 1 := Array.size_push ..
theorem cell_of {w : World} {b i : Nat} {c : Array Value} {t : TypeId} {fz : Nat × Nat} (h : w.heap[b]? = some (.cells c t fz)) : w.cell? ⟨b, i, none⟩ = c[i]? := by
  show (match w.heap[b]? with | some (.cells c _ _) => if (none : Option Nat).isSome then none else c[i]? | _ => none) = _
  rw [h]; rfl
theorem two_cells (w : World) (a b : Array Value) (t : TypeId) : ((w.alloc (.cells a t)).alloc (.cells b t)).heap.size = w.heap.size + 2 ∧
    (∀ i, ((w.alloc (.cells a t)).alloc (.cells b t)).cell? ⟨w.heap.size, i, none⟩ = a[i]?) ∧ (∀ i, ((w.alloc (.cells a t)).alloc (.cells b t)).cell? ⟨w.heap.size + 1, i, none⟩ = b[i]?) ∧ RowKit.Below w.heap.size w ((w.alloc (.cells a t)).alloc (.cells b t)) := by
  have e1 := alloc_size w (.cells a t)
  have e2 := alloc_size (w.alloc (.cells a t)) (.cells b t)
  refine ⟨by rw [e2, e1], fun i => cell_of (t := t) (fz := (0, 0)) ?_, fun i => cell_of (t := t) (fz := (0, 0)) ?_, ((RowKit.Below.refl _ w).alloc (Nat.le_refl _) _).alloc (by rw [e1]; omega) _⟩
  · rw [RowKit.Below.heap_alloc _ _ _ (by rw [e1]; omega)]; exact heap_alloc_new w _
  · rw [← e1]; exact heap_alloc_new _ _

def NmQ (W : World) (l : List ByteArray) : Exit → Act → World → Prop
  | .normal, a', w' => ∃ v z0 z1 z2 z3 z4 z6 z7 z8 z9 za zb zc zd ze zf, a' = { tmps := #[z0, z1, z2, z3, z4, v, z6, z7, z8, z9, za, zb, zc, zd, ze, zf], defers := [] } ∧ Own W l w' v
  | _, _, _ => False

set_option maxHeartbeats 2000000 in
theorem names_k (w : World) (x0 x1 x2 x3 x4 x5 x6 x7 x8 x9 xa xb y0 y1 y2 y3 y4 y5 y6 y7 y8 y9 ya yb : Value) (l m : List ByteArray) (hx : StrsAt w x0 l) (hy : StrsAt w y0 m) (hl : l.length ≤ 2000) (hm : m.length ≤ 2000) :
    Calls Tryz.prog 99 #[.agg #[x0, x1, x2, x3, x4, x5, x6, x7, x8, x9, xa, xb], .agg #[y0, y1, y2, y3, y4, y5, y6, y7, y8, y9, ya, yb]] w fun e w' => ∃ v', e = .returned v' ∧ Own w (compactS (sortedS (l ++ m))) w' v' := by
  obtain ⟨hsz, c0, c1, hbe⟩ := two_cells w #[x0, x1, x2, x3, x4, x5, x6, x7, x8, x9, xa, xb] #[y0, y1, y2, y3, y4, y5, y6, y7, y8, y9, ya, yb] 44
  have c0 := c0 0
  have c1 := c1 0
  simp only [List.getElem?_toArray, List.getElem?_cons_zero] at c0 c1
  go_enter Tryz.func99, Tryz.ntmps99
  go_wp2_with fail
  rename_i K hK
  generalize (w.alloc (Obj.cells #[x0, x1, x2, x3, x4, x5, x6, x7, x8, x9, xa, xb] 44)).alloc (Obj.cells #[y0, y1, y2, y3, y4, y5, y6, y7, y8, y9, ya, yb] 44) = W at *
  have hx := hx.later hbe
  have hy := hy.later hbe
  refine wp_mono (Q := NmQ W (l ++ m)) ?_ ?_
  · go_region_law (first
      | (refine step_append_k rfl (.tmp 8) (.tmp 10) rfl (by simp [Act.eval, Act.put] <;> rfl) (by simp [Act.eval, Act.put] <;> rfl) (by assumption) (by assumption) (by omega) (by omega) ?_; intro v' w' hown')
      | (go_simp; go_at_call 109; refine (clone_k (w := W.drew) (hx.later ((RowKit.Below.refl _ W).drew)) (by omega)).mono ?_; rintro e w1 ⟨v1, rfl, hown⟩
         have k1 : w1.cell? ⟨w.heap.size + 1, 0, none⟩ = some y0 := (hown.below.cell (p := ⟨w.heap.size + 1, 0, none⟩) (by show w.heap.size + 1 < W.heap.size; omega)).trans c1
         have hy1 : StrsAt w1 y0 m := hy.later ((RowKit.Below.refl _ W).drew.trans hown.below)))
    all_goals exact ⟨_, _, _, _, _, _, _, _, _, _, _, _, _, _, _, _, rfl, Own.base (w1 := W.drew) (by assumption) ((RowKit.Below.refl _ W).drew)⟩
  · intro e a' w' hq
    cases e with
    | normal =>
      obtain ⟨v, z0, z1, z2, z3, z4, z6, z7, z8, z9, za, zb, zc, zd, ze, zf, rfl, hown⟩ := hq
      have hown := hown.base hbe
      have hlen : (l ++ m).length ≤ 8000 := by rw [List.length_append]; omega
      refine hK _ _ ?_
      have hs := sort_k hown hlen
      go_wp2_with (first
        | (go_at_call 110; refine hs.mono ?_; rintro e w2 ⟨rfl, hown2⟩
           have hc := compact_k hown2 (by rw [sortedS_length]; exact hlen))
        | (go_at_call 111; refine hc.mono ?_; rintro e w3 ⟨v3, rfl, hown3⟩))
      go_ret
      exact ⟨_, rfl, hown3⟩
    | _ => exact hq.elim
end Go.Ab
