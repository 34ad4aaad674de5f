import Derived.Test.YtjggngbfmjneiaaGreatW24f
import Derived.Test.YtjggngbfmjneiaaGreatPZh
import Derived.Test.YtjggngbfmjneiaaGreatW2
import Derived.Test.YtjggngbfmjneiaaGreatW47
set_option linter.unusedVariables false
set_option linter.unusedSimpArgs false
set_option maxRecDepth 4000
namespace Go.Ab
open Go.Proofs

theorem take_next {α : Type} {l : List α} {k : Nat} (h : k < l.length) : l.take (k + 1) = l.take k ++ [l[k]] := by
  rw [List.take_add_one, List.getElem?_eq_getElem h]; rfl

/-- What an append asks. -/
theorem appC {e n : Nat} {j : TI} {z : V} {rows news : List (List D)} (h1 : n = rows.length) (h2 : (cellsV z).length = j.size) (h3 : 0 < j.size) (hr : ∀ r ∈ rows, r.length = j.size) (hn : ∀ r ∈ news, r.length = j.size) (ho : oneRows news = true)
    (hb : j.bytes ≤ 200) (hl : rows.length + news.length ≤ 600000000000) :
    e = e ∧ j.size = j.size ∧ n = rows.length ∧ (cellsV z).length = j.size ∧ 0 < j.size ∧ (∀ r ∈ rows, r.length = j.size) ∧ (∀ r ∈ news, r.length = j.size) ∧ oneRows news = true ∧
        (rows.length + news.length) * j.bytes ≤ 140737488355328 ∧ rows.length + news.length ≤ 140737488355328 :=
  ⟨rfl, rfl, h1, h2, h3, hr, hn, ho, by
    have : (rows.length + news.length) * j.bytes ≤ 600000000000 * 200 := Nat.mul_le_mul hl hb
    omega, by omega⟩
theorem rowsLen {α : Type} {f : α → List D} {n : Nat} (hf : ∀ a, (f a).length = n) (l : List α) : ∀ r ∈ l.map f, r.length = n := fun r hr => by
  obtain ⟨a, _, rfl⟩ := List.mem_map.1 hr; exact hf a
theorem oneLen {row : List D} {n : Nat} (h : row.length = n) : ∀ r ∈ [row], r.length = n := fun r hr => by rw [List.mem_singleton.1 hr]; exact h
theorem valLen (v : Val) : v.cells.length = 5 := by rw [Val.cells_eq]; rfl

theorem lenNext {α : Type} {f : α → List D} {l : List α} {k : Nat} (h : k < l.length) : ((l.take k).map f).length + 1 = (l.take (k + 1)).length := by simp; omega
theorem rowsNext {α : Type} {f : α → List D} {l : List α} {k : Nat} {row : List D} (h : k < l.length) (e : row = f l[k]) : (l.take k).map f ++ [row] = (l.take (k + 1)).map f := by
  rw [take_next h, List.map_append, e]; rfl

set_option maxHeartbeats 2000000 in
theorem texts03_ok (l : List ByteArray) (hl : l.length ≤ 1000000) : TCall Tryz.prog 93 [vStrs l] 9 1 (l.map strC) := by
  refine TCall.of_fx TTok mixed Tryz.func93 rfl (by decide) rfl ?_
  conv => whnf
  refine ⟨⟨_, _, Yl.buildSlice0 rfl Tryz.underlying23 (ti_is tt9_ok), ?_⟩⟩
  conv => whnf
  refine ⟨SExec.loop_n l.length (fun k => ⟨20, [(4, vInt k), (3, .gs 0 ((l.take k).map strC)), (0, vStrs l)], [.tok 9 1 (l.take k).length]⟩) (fun k => Nat.le_refl _) (St.subD_of rfl [] rfl rfl (.cons (.refl _) rfl (.cons (.refl _) rfl (.cons (.refl _) rfl .nil)))) ?_⟩
  intro k hk
  refine fx_sound TTok mixed ?_
  conv => whnf
  refine bsel_intro (fun hlt => ?_) (fun hlt => ?_)
  · have hlt : k < l.length := by simpa using hlt
    conv => whnf
    refine idxStr hlt rfl ?_
    conv => whnf
    refine ⟨appC (j := tt9) (by simp) rfl (by decide) (rowsLen (f := strC) (fun _ => rfl) _) (oneLen rfl) rfl (by decide) (by simp [chunk]; omega), ?_⟩
    conv => whnf
    exact ⟨hlt, St.subD_of rfl [] (congrArg (fun n => [O.tok 9 1 n]) (lenNext (f := strC) hlt)) rfl (.cons (.of_eq (vInt_succ k (by omega))) rfl (.cons (.of_eq (congrArg (V.gs 0) (rowsNext hlt rfl))) rfl (.cons (.refl _) rfl .nil)))⟩
  · have hge : l.length ≤ k := by simpa using hlt
    conv => whnf
    exact retG TTok rfl (by rw [List.take_of_length_le hge]) (by rw [List.take_of_length_le hge, List.length_map]; rfl)
end Go.Ab
set_option linter.unusedVariables false
set_option linter.unusedSimpArgs false
set_option maxRecDepth 4000
namespace Go.Ab
open Go.Proofs

theorem putRow {l : List V} {m : List V} (h : l = m) (t : Nat) : O.row t l = O.row t m := by rw [h]

set_option maxHeartbeats 2000000 in
theorem twins03_of (l : List Val) (hl : l.length ≤ 1000000) (hc : ∀ x ∈ l, PCall Tryz.prog 107 [vVal x] (vVal x)) : TCall Tryz.prog 94 [vVals l] 33 5 (l.map Val.cells) := by
  refine TCall.of_fx TTok mixed Tryz.func94 rfl (by decide) rfl ?_
  conv => whnf
  refine ⟨⟨_, _, Yl.buildSlice0 rfl Tryz.underlying31 (ti_is tt33_ok), ?_⟩⟩
  conv => whnf
  refine ⟨SExec.loop_n l.length (fun k => ⟨23, [(4, vInt k), (3, .gs 0 ((l.take k).map Val.cells)), (0, vVals l)], [.tok 33 5 (l.take k).length]⟩) (fun k => Nat.le_refl _) (St.subD_of rfl [] rfl rfl (.cons (.refl _) rfl (.cons (.refl _) rfl (.cons (.refl _) rfl .nil)))) ?_⟩
  intro k hk
  refine fx_sound TTok mixed ?_
  conv => whnf
  refine bsel_intro (fun hlt => ?_) (fun hlt => ?_)
  · have hlt : k < l.length := by simpa using hlt
    conv => whnf
    refine idxVal hlt rfl ?_
    conv => whnf
    refine (hc _ (List.getElem_mem hlt)).use (.refl _) ?_
    conv => whnf
    refine ⟨appC (j := tt33) (by simp) rfl (by decide) (rowsLen (f := Val.cells) valLen _) (oneLen rfl) rfl (by decide) (by simp [chunk]; omega), ?_⟩
    conv => whnf
    exact ⟨hlt, St.subD_of rfl _ (congrArg (fun n => [O.tok 33 5 n] ++ [O.row 33 (cellsV (vVal l[k]))]) (lenNext (f := Val.cells) hlt)) rfl (.cons (.of_eq (vInt_succ k (by omega))) rfl (.cons (.of_eq (congrArg (V.gs 0) (rowsNext hlt (Val.cells_eq _).symm))) rfl (.cons (.refl _) rfl .nil)))⟩
  · have hge : l.length ≤ k := by simpa using hlt
    conv => whnf
    exact retG TTok rfl (by rw [List.take_of_length_le hge]) (by rw [List.take_of_length_le hge, List.length_map]; rfl)

set_option maxHeartbeats 2000000 in
theorem twin03_ok : ∀ v : Val, SmV v → PCall Tryz.prog 107 [vVal v] (vVal v) := by
  intro v
  induction v using Val.ind with
  | h v ih =>
  intro hs
  have hk0 := hs.keys
  have hi0 := hs.items
  have ht := twins03_of v.items (by omega) (fun x hx => ih x hx (hs.all x hx))
  refine PCall.of_fx TTok mixed Tryz.func107 rfl (by decide) rfl rfl ?_
  conv => whnf
  refine ⟨SExec.up 9 1 ⟨34, [(4, vInt (0 : Nat)), (3, .bx 2 0), (2, .bx 1 0), (1, .bx 0 0)], [.row 33 (cellsV (vVal v)), .row 33 [.d (.lit (.int .i64 0)), .d (.lit (.string ⟨#[]⟩)), .d (.lit (.string ⟨#[]⟩)), .d (.lit (.slice none 0 0)), .d (.lit (.slice none 0 0))], .row 33 [.d (.lit (.int .i64 v.kind)), .d (.lit (.string v.num)), .d (.lit (.string v.text)), .d (.lit (.slice none 0 0)), .gs 3 []], .tok 9 1 0]⟩ _ rfl
    (.cons (.refl _) (.cons (.refl _) (.cons (.row (.cons (.refl _ _) (.cons (.refl _ _) (.cons (.refl _ _) (.cons (.refl _ _) (.cons (.nil _) .nil)))))) .nil))) rfl (.cons (.refl _ _) (.cons (.refl _ _) (.cons (.refl _ _) (.cons (.refl _ _) .nil)))) ?_⟩
  refine SExec.loop_n v.keys.length (fun k => ⟨34, [(4, vInt k), (3, .bx 2 0), (2, .bx 1 0), (1, .bx 0 0)], [.row 33 (cellsV (vVal v)), .row 33 [.d (.lit (.int .i64 0)), .d (.lit (.string ⟨#[]⟩)), .d (.lit (.string ⟨#[]⟩)), .d (.lit (.slice none 0 0)), .d (.lit (.slice none 0 0))], .row 33 [.d (.lit (.int .i64 v.kind)), .d (.lit (.string v.num)), .d (.lit (.string v.text)), .d (.lit (.slice none 0 0)), .gs 3 ((v.keys.take k).map strC)], .tok 9 1 (v.keys.take k).length]⟩)
    (fun k => Nat.le_refl _) (St.subD_of rfl [] rfl rfl (.cons (.refl _) rfl (.cons (.refl _) rfl (.cons (.refl _) rfl (.cons (.refl _) rfl .nil))))) ?_
  intro k hk
  refine fx_sound TTok mixed ?_
  conv => whnf
  refine bsel_intro (fun hlt => ?_) (fun hlt => ?_)
  · have hlt : k < v.keys.length := by simpa using hlt
    conv => whnf
    refine ⟨SExec.region_fG TTok mixed 0 0 (by decide +kernel) rfl rfl ?_⟩
    conv => whnf
    refine idxStr hlt rfl ?_
    conv => whnf
    refine ⟨rfl, ?_⟩
    conv => whnf
    refine ⟨⟨Nat.zero_le _, appC (j := tt9) (by simp) rfl (by decide) (rowsLen (f := strC) (fun _ => rfl) _) (oneLen rfl) rfl (by decide) (by simp [chunk]; omega)⟩, ?_⟩
    conv => whnf
    refine ⟨hlt, St.subD_of rfl [] ?_ rfl (.cons (.of_eq (vInt_succ k (by omega))) rfl (.cons (.refl _) rfl (.cons (.refl _) rfl (.cons (.refl _) rfl .nil))))⟩
    exact congrArg (fun p : List (List D) × Nat => [O.row 33 (cellsV (vVal v)), .row 33 [.d (.lit (.int .i64 0)), .d (.lit (.string ⟨#[]⟩)), .d (.lit (.string ⟨#[]⟩)), .d (.lit (.slice none 0 0)), .d (.lit (.slice none 0 0))], .row 33 [.d (.lit (.int .i64 v.kind)), .d (.lit (.string v.num)), .d (.lit (.string v.text)), .d (.lit (.slice none 0 0)), .gs 3 p.1], .tok 9 1 p.2])
      (Prod.ext (rowsNext (f := strC) hlt rfl) (lenNext (f := strC) hlt) : (_, _) = ((v.keys.take (k + 1)).map strC, (v.keys.take (k + 1)).length))
  · have hge : v.keys.length ≤ k := by simpa using hlt
    rw [List.take_of_length_le hge]
    conv => whnf
    refine ht.pcall.use (.refl _) ?_
    conv => whnf
    exact retP TTok rfl (.agg (.cons (.refl _) (.cons (.refl _) (.cons (.refl _) (.cons (.refl _) (.cons (.gs_sl _ _) .nil)))))) rfl
end Go.Ab
set_option linter.unusedVariables false
set_option linter.unusedSimpArgs false
set_option maxRecDepth 4000
namespace Go.Ab
open Go.Proofs

theorem object03_ok (v : Val) : PCall Tryz.prog 91 [vVal v] (vBool (tt (v.kind = 6 ∧ VOk v))) := by
  refine PCall.of_fx TTok mixed Tryz.func91 rfl (by decide) rfl rfl ?_
  conv => whnf
  refine bsel_intro (fun h1 => ?_) (fun h1 => ?_)
  · have h1 : v.kind = 6 := by simpa using h1
    conv => whnf
    refine (vformed_ok v).use (.refl _) ?_
    conv => whnf
    exact retB TTok rfl (tt_congr ⟨fun h => ⟨h1, h⟩, fun h => h.2⟩)
  · have h1 : v.kind ≠ 6 := by simpa using h1
    conv => whnf
    exact retB TTok rfl (tt_f fun h => h1 h.1)

theorem gt_iff {a b : ByteArray} : (!(strLt a b || strEq a b)) = true ↔ strLt b a = true := by
  constructor
  · intro h
    simp only [Bool.not_eq_true', Bool.or_eq_false_iff] at h
    exact strLt_total h.1 (strEq_not.1 h.2)
  · intro h
    have h1 := strLt_asymm h
    have h2 : strEq a b = false := strEq_not.2 fun e => by rw [e, strLt_irrefl] at h; cases h
    rw [h1, h2]; rfl
theorem gt_not {a b : ByteArray} : (!(strLt a b || strEq a b)) = false ↔ strLt b a = false := by
  rw [← Bool.not_eq_true, ← Bool.not_eq_true, gt_iff]
/-- Two results. -/
def vP (s : ByteArray) (f : Bool) : V := .tup [vStr s, vBool f]
set_option maxHeartbeats 2000000 in
theorem next03_ok (keys : List ByteArray) (above : ByteArray) (first : Bool) : PCall Tryz.prog 105 [vStrs keys, vStr above, vBool first] (vP (nextL keys above first).1 (nextL keys above first).2) := by
  refine PCall.bd Tryz.func105 rfl (by decide) rfl rfl (fun hbd => ?_)
  have hb := (bd_strs (hbd 0 (by simp))).1
  simp only [maxRows] at hb
  refine PCall.of_fx TTok mixed Tryz.func105 rfl (by decide) rfl rfl ?_
  conv => whnf
  refine ⟨SExec.loop_n keys.length (fun k => ⟨44, [(10, vInt k), (9, vStr (nextL (keys.take k) above first).1), (8, vBool (nextL (keys.take k) above first).2), (0, vStrs keys), (1, vStr above), (2, vBool first)], []⟩) (fun k => Nat.le_refl _) (St.subD_of rfl [] rfl rfl (.cons (.refl _) rfl (.cons (.refl _) rfl (.cons (.refl _) rfl (.cons (.refl _) rfl (.cons (.refl _) rfl (.cons (.refl _) rfl .nil))))))) ?_⟩
  intro k hk
  refine fx_sound TTok mixed ?_
  conv => whnf
  refine bsel_intro (fun hlt => ?_) (fun hlt => ?_)
  · have hlt : k < keys.length := by simpa using hlt
    have est : ∀ q : ByteArray × Bool, nextStep above first (nextL (keys.take k) above first) keys[k] = q → nextL (keys.take (k + 1)) above first = q := fun q h => by rw [take_next hlt, nextL_snoc, h]
    unfold nextStep at est
    generalize hp : nextL (keys.take k) above first = p at est
    obtain ⟨s, f⟩ := p
    have fin : ∀ tm s' f', nextL (keys.take (k + 1)) above first = (s', f') → getT 10 tm = vInt ((k + 1 : Nat) : Int) → getT 9 tm = vStr s' → getT 8 tm = vBool f' → getT 0 tm = vStrs keys → getT 1 tm = vStr above → getT 2 tm = vBool first →
        (⟨44, tm, []⟩ : St).subD ⟨44, [(10, vInt ((k + 1 : Nat) : Int)), (9, vStr (nextL (keys.take (k + 1)) above first).1), (8, vBool (nextL (keys.take (k + 1)) above first).2), (0, vStrs keys), (1, vStr above), (2, vBool first)], []⟩ := by
      intro tm s' f' e g1 g2 g3 g4 g5 g6
      rw [e]
      exact St.subD_of rfl [] rfl rfl (.cons (.of_eq g1) rfl (.cons (.of_eq g2) rfl (.cons (.of_eq g3) rfl (.cons (.of_eq g4) rfl (.cons (.of_eq g5) rfl (.cons (.of_eq g6) rfl .nil))))))
    conv => whnf
    cases first
    · conv => whnf
      refine idxStr hlt rfl ?_
      conv => whnf
      refine bsel_intro (fun h1 => ?_) (fun h1 => ?_)
      · have h1 : strLt above keys[k] = true := gt_iff.1 (beqT h1)
        cases f
        · conv => whnf
          refine idxStr hlt rfl ?_
          conv => whnf
          exact ⟨hlt, fin _ _ _ (est _ (by rw [if_pos (by simp [h1])])) (vInt_succ k (by omega)) rfl rfl rfl rfl rfl⟩
        · conv => whnf
          refine idxStr hlt rfl ?_
          conv => whnf
          refine bsel_intro (fun h2 => ?_) (fun h2 => ?_)
          · have h2 : strLt keys[k] s = true := by simpa using h2
            conv => whnf
            refine idxStr hlt rfl ?_
            conv => whnf
            exact ⟨hlt, fin _ _ _ (est _ (by rw [if_pos (by simp [h1, h2])])) (vInt_succ k (by omega)) rfl rfl rfl rfl rfl⟩
          · have h2 : strLt keys[k] s = false := by simpa using h2
            conv => whnf
            exact ⟨hlt, fin _ _ _ (est _ (by rw [if_neg (by simp [h1, h2])])) (vInt_succ k (by omega)) rfl rfl rfl rfl rfl⟩
      · have h1 : strLt above keys[k] = false := gt_not.1 (beqT h1)
        conv => whnf
        exact ⟨hlt, fin _ _ _ (est _ (by rw [if_neg (by simp [h1])])) (vInt_succ k (by omega)) rfl rfl rfl rfl rfl⟩
    · conv => whnf
      cases f
      · conv => whnf
        refine idxStr hlt rfl ?_
        conv => whnf
        exact ⟨hlt, fin _ _ _ (est _ (by rw [if_pos (by simp)])) (vInt_succ k (by omega)) rfl rfl rfl rfl rfl⟩
      · conv => whnf
        refine idxStr hlt rfl ?_
        conv => whnf
        refine bsel_intro (fun h2 => ?_) (fun h2 => ?_)
        · have h2 : strLt keys[k] s = true := by simpa using h2
          conv => whnf
          refine idxStr hlt rfl ?_
          conv => whnf
          exact ⟨hlt, fin _ _ _ (est _ (by rw [if_pos (by simp [h2])])) (vInt_succ k (by omega)) rfl rfl rfl rfl rfl⟩
        · have h2 : strLt keys[k] s = false := by simpa using h2
          conv => whnf
          exact ⟨hlt, fin _ _ _ (est _ (by rw [if_neg (by simp [h2])])) (vInt_succ k (by omega)) rfl rfl rfl rfl rfl⟩
  · have hge : keys.length ≤ k := by simpa using hlt
    rw [List.take_of_length_le hge]
    conv => whnf
    exact retP TTok rfl (.refl _) rfl

set_option maxHeartbeats 2000000 in
theorem last03_ok (keys : List ByteArray) (n : ByteArray) (hn : n ∈ keys) : PCall Tryz.prog 106 [vStrs keys, vStr n] (vInt (lastAt keys n)) := by
  obtain ⟨hi, he, hmax⟩ := lastAt_spec hn
  generalize lastAt keys n = i at hi he hmax
  refine PCall.bd Tryz.func106 rfl (by decide) rfl rfl (fun hbd => ?_)
  have hb := (bd_strs (hbd 0 (by simp))).1
  simp only [maxRows] at hb
  refine PCall.of_fx TTok mixed Tryz.func106 rfl (by decide) rfl rfl ?_
  conv => whnf
  refine ⟨SExec.loop_p (keys.length - 1 - i) (fun k => True) (fun k => ⟨20, [(5, vInt ((keys.length - 1 - k : Nat) : Int)), (0, vStrs keys), (1, vStr n)], []⟩) trivial (fun k => Nat.le_refl _) (St.subD_of rfl [] rfl rfl (.cons (.of_eq ?_) rfl (.cons (.refl _) rfl (.cons (.refl _) rfl .nil)))) ?_⟩
  · show V.d (D.lit (.int .i64 (IntKind.i64.wrap (((keys.map strC).length : Int) - 1)))) = _
    have e : (((keys.map strC).length : Int) - 1) = ((keys.length - 1 - 0 : Nat) : Int) := by simp; omega
    rw [e, wrap_id (by omega) (by omega)]; rfl
  intro k hk _
  have hj : keys.length - 1 - k < keys.length := by omega
  refine fx_sound TTok mixed ?_
  conv => whnf
  refine idxStr hj rfl ?_
  conv => whnf
  refine bsel_intro (fun h1 => ?_) (fun h1 => ?_)
  · have h1 : keys[keys.length - 1 - k] = n := strEq_iff.1 h1
    have e : keys.length - 1 - k = i := by
      rcases Nat.lt_or_ge i (keys.length - 1 - k) with h | h
      · exact absurd h1 (hmax _ hj h)
      · omega
    conv => whnf
    exact retP TTok rfl (.of_eq (congrArg (fun m : Nat => vInt (m : Int)) e)) rfl
  · have h1 : keys[keys.length - 1 - k] ≠ n := strEq_not.1 h1
    have hlt : k < keys.length - 1 - i := by
      rcases Nat.lt_or_ge k (keys.length - 1 - i) with h | h
      · exact h
      · exact absurd (by have e : keys.length - 1 - k = i := by omega
                         simpa [e] using he) h1
    conv => whnf
    refine ⟨⟨hlt, trivial⟩, St.subD_of rfl [] rfl rfl (.cons (.of_eq ?_) rfl (.cons (.refl _) rfl (.cons (.refl _) rfl .nil)))⟩
    show V.d (D.lit (.int .i64 (IntKind.i64.wrap (((keys.length - 1 - k : Nat) : Int) - 1)))) = _
    have e : (((keys.length - 1 - k : Nat) : Int) - 1) = ((keys.length - 1 - (k + 1) : Nat) : Int) := by omega
    rw [e, wrap_id (by omega) (by omega)]; rfl
end Go.Ab
set_option linter.unusedVariables false
set_option linter.unusedSimpArgs false
set_option maxRecDepth 4000
namespace Go.Ab
open Go.Proofs

theorem congr4 {α β γ δ ε : Type} (f : α → β → γ → δ → ε) {a a' : α} {b b' : β} {c c' : γ} {d d' : δ} (h1 : a = a') (h2 : b = b') (h3 : c = c') (h4 : d = d') : f a b c d = f a' b' c' d' := by rw [h1, h2, h3, h4]
theorem rowLen {n : Nat} {row : List D} (h : row.length = n) : ∀ r ∈ [row], r.length = n := oneLen h
def zVal : List V := [.d (.lit (.int .i64 0)), .d (.lit (.string ⟨#[]⟩)), .d (.lit (.string ⟨#[]⟩)), .d (.lit (.slice none 0 0)), .d (.lit (.slice none 0 0))]
def oVal (a b : V) : List V := [.d (.lit (.int .i64 6)), .d (.lit (.string ⟨#[]⟩)), .d (.lit (.string ⟨#[]⟩)), a, b]

set_option maxHeartbeats 2000000 in
theorem gather03_ok (keys : List ByteArray) (items : List Val) (hl : keys.length = items.length) (hs : keys.length ≤ 100000) : PCall Tryz.prog 92 [vStrs keys, vVals items] (vVal (gVal keys items)) := by
  have hK := setS_len keys
  have hKn : ∀ j (h : j < (setS keys).length), (setS keys)[j] ∈ keys := fun j h => setS_mem.1 (List.getElem_mem h)
  have hf := next_first keys ⟨#[]⟩
  have hm := next_more keys
  have hG : gItems keys items = (setS keys).map fun n => items.getD (lastAt keys n) (vk 0) := rfl
  have hI : ∀ j (h : j < (setS keys).length), ∃ hi : lastAt keys (setS keys)[j] < items.length, ∀ h' : j < (gItems keys items).length, (gItems keys items)[j] = items[lastAt keys (setS keys)[j]] := fun j h => by
    obtain ⟨h1, _⟩ := lastAt_spec (hKn j h)
    have h2 : lastAt keys (setS keys)[j] < items.length := by omega
    exact ⟨h2, fun h' => by simp [hG, List.getD_eq_getElem?_getD, h2]⟩
  have hgl : (gItems keys items).length = (setS keys).length := by rw [hG, List.length_map]
  have hv : vVal (gVal keys items) = .agg [.d (.lit (.int .i64 6)), .d (.lit (.string ⟨#[]⟩)), .d (.lit (.string ⟨#[]⟩)), .d (.sl ((gItems keys items).map Val.cells)), .d (.sl ((setS keys).map strC))] := rfl
  rw [hv]
  generalize gItems keys items = G at hI hgl
  clear hG hv
  generalize setS keys = K at hK hKn hf hm hI hgl
  refine PCall.of_fx TTok mixed Tryz.func92 rfl (by decide) rfl rfl ?_
  conv => whnf
  refine (next03_ok keys ⟨#[]⟩ true).use (.refl _) ?_
  rw [hf]
  conv => whnf
  refine ⟨SExec.up 9 1 ⟨41, [(7, vBool (decide (0 < K.length))), (6, vStr (K.getD 0 ⟨#[]⟩)), (5, .bx 1 0), (4, .bx 0 0), (0, vStrs keys), (1, vVals items)], [.row 33 zVal, .row 33 (oVal (.d (.lit (.slice none 0 0))) (.gs 2 [])), .tok 9 1 0]⟩ _ rfl
    (.cons (.refl _) (.cons (.row (.cons (.refl _ _) (.cons (.refl _ _) (.cons (.refl _ _) (.cons (.refl _ _) (.cons (.nil _) .nil)))))) .nil)) rfl (.cons (.refl _ _) (.cons (.refl _ _) (.cons (.refl _ _) (.cons (.refl _ _) (.cons (.refl _ _) (.cons (.refl _ _) .nil)))))) ?_⟩
  refine SExec.up 33 5 ⟨41, [(7, vBool (decide (0 < K.length))), (6, vStr (K.getD 0 ⟨#[]⟩)), (5, .bx 1 0), (4, .bx 0 0), (0, vStrs keys), (1, vVals items)], [.row 33 zVal, .row 33 (oVal (.gs 3 []) (.gs 2 [])), .tok 9 1 0, .tok 33 5 0]⟩ _ rfl
    (.cons (.refl _) (.cons (.row (.cons (.refl _ _) (.cons (.refl _ _) (.cons (.refl _ _) (.cons (.nil _) (.cons (.refl _ _) .nil)))))) (.cons (.refl _) .nil))) rfl (.cons (.refl _ _) (.cons (.refl _ _) (.cons (.refl _ _) (.cons (.refl _ _) (.cons (.refl _ _) (.cons (.refl _ _) .nil)))))) ?_
  refine SExec.loop_n K.length (fun j => ⟨41, [(7, vBool (decide (j < K.length))), (6, vStr (K.getD j ⟨#[]⟩)), (5, .bx 1 0), (4, .bx 0 0), (0, vStrs keys), (1, vVals items)],
      [.row 33 zVal, .row 33 (oVal (.gs 3 ((G.take j).map Val.cells)) (.gs 2 ((K.take j).map strC))), .tok 9 1 (K.take j).length, .tok 33 5 (G.take j).length]⟩)
    (fun k => Nat.le_refl _) (St.subD_of rfl [] rfl rfl (.cons (.refl _) rfl (.cons (.refl _) rfl (.cons (.refl _) rfl (.cons (.refl _) rfl (.cons (.refl _) rfl (.cons (.refl _) rfl .nil))))))) ?_
  intro j hj
  refine fx_sound TTok mixed ?_
  by_cases hlt : j < K.length
  · have eK : K.getD j ⟨#[]⟩ = K[j] := by simp [List.getD_eq_getElem?_getD, hlt]
    have hGj : j < G.length := by omega
    obtain ⟨hi, eG⟩ := hI j hlt
    have eG := eG hGj
    rw [decide_eq_true hlt, eK]
    conv => whnf
    refine (last03_ok keys _ (hKn j hlt)).use (.refl _) ?_
    conv => whnf
    refine ⟨appC (j := tt9) (by simp) rfl (by decide) (rowsLen (f := strC) (fun _ => rfl) _) (oneLen rfl) rfl (by decide) (by simp [chunk]; omega), ?_⟩
    conv => whnf
    refine ⟨SExec.region_fG TTok mixed 0 0 (by decide +kernel) rfl rfl ?_⟩
    conv => whnf
    refine idxVal hi rfl ?_
    conv => whnf
    refine ⟨rfl, ?_⟩
    conv => whnf
    refine ⟨⟨Nat.zero_le _, appC (j := tt33) (by simp) rfl (by decide) (rowsLen (f := Val.cells) valLen _) (oneLen rfl) rfl (by decide) (by simp [chunk]; omega)⟩, ?_⟩
    conv => whnf
    refine (next03_ok keys K[j] false).use (.refl _) ?_
    rw [hm j hlt]
    conv => whnf
    refine ⟨hlt, St.subD_of rfl [] ?_ rfl (.cons (.refl _) rfl (.cons (.refl _) rfl (.cons (.refl _) rfl (.cons (.refl _) rfl (.cons (.refl _) rfl (.cons (.refl _) rfl .nil))))))⟩
    exact congr4 (fun a b c d => [O.row 33 zVal, .row 33 (oVal (.gs 3 c) (.gs 2 a)), .tok 9 1 b, .tok 33 5 d])
      (rowsNext (f := strC) hlt rfl) (lenNext (f := strC) hlt) (rowsNext (f := Val.cells) hGj (by rw [eG, Val.cells_eq]; rfl)) (lenNext (f := Val.cells) hGj)
  · have hge : K.length ≤ j := by omega
    rw [decide_eq_false hlt, List.take_of_length_le hge, List.take_of_length_le (by omega : G.length ≤ j)]
    conv => whnf
    exact retP TTok rfl (.agg (.cons (.refl _) (.cons (.refl _) (.cons (.refl _) (.cons (.gs_sl _ _) (.cons (.gs_sl _ _) .nil)))))) rfl

def vVP (v : Val) (e : Int) : V := .tup [vVal v, vInt e]
set_option maxHeartbeats 2000000 in
theorem with03_ok (v item : Val) (key : ByteArray) (hv : Vg v) (k : v.kind = 6) (hk : Utf key) (hi : Vg item) (hs : v.keys.length ≤ 50000) : PCall Tryz.prog 69 [vVal v, vStr key, vVal item] (vVP (gVal (v.keys ++ [key]) (v.items ++ [item])) 0) := by
  have hlen : v.keys.length = v.items.length := (vok_obj hv.ok k).1
  have h1 := object03_ok v
  rw [tt_iff.2 ⟨k, hv.ok⟩] at h1
  have h2 := utf_ok key
  rw [tt_iff.2 hk] at h2
  have h3 := vformed_ok item
  rw [tt_iff.2 hi.ok] at h3
  refine PCall.of_fx TTok mixed Tryz.func69 rfl (by decide) rfl rfl ?_
  conv => whnf
  refine h1.use (.refl _) ?_
  conv => whnf
  refine h2.use (.refl _) ?_
  conv => whnf
  refine h3.use (.refl _) ?_
  conv => whnf
  refine ⟨SExec.region_fG TTok mixed 0 2 (by decide +kernel) rfl rfl ?_⟩
  conv => whnf
  refine .inr (.inl ?_)
  conv => whnf
  refine (texts03_ok v.keys (by omega)).useT (.refl _) rfl ?_
  conv => whnf
  refine ⟨rfl, ?_⟩
  conv => whnf
  refine ⟨⟨Nat.zero_le _, appC (j := tt9) rfl rfl (by decide) (rowsLen (f := strC) (fun _ => rfl) _) (oneLen rfl) rfl (by decide) (by simp [chunk]; omega)⟩, ?_⟩
  conv => whnf
  refine .inr (.inl ?_)
  conv => whnf
  refine (twins03_of v.items (by omega) fun x hx => twin03_ok x (hv.sm.all x hx)).useT (.refl _) rfl ?_
  conv => whnf
  refine ⟨rfl, ?_⟩
  conv => whnf
  refine ⟨⟨Nat.zero_le _, appC (j := tt33) rfl rfl (by decide) (rowsLen (f := Val.cells) valLen _) (oneLen rfl) rfl (by decide) (by simp [chunk]; omega)⟩, ?_⟩
  conv => whnf
  refine .inr (.inr ?_)
  conv => whnf
  refine (gather03_ok (v.keys ++ [key]) (v.items ++ [item]) (by simp [hlen]) (by simp; omega)).useP (.cons ?_ (.cons ?_ .nil)) ?_
  · refine (EntV.gs_sl _ _).trans (.of_eq (congrArg (fun r => V.d (D.sl r)) ?_))
    rw [List.map_append]; rfl
  · refine (EntV.gs_sl _ _).trans (.of_eq (congrArg (fun r => V.d (D.sl r)) ?_))
    rw [List.map_append]
    show _ = _ ++ [item.cells]
    rw [Val.cells_eq]; rfl
  conv => whnf
  exact retP TTok rfl (.refl _) rfl
end Go.Ab
set_option linter.unusedVariables false
set_option linter.unusedSimpArgs false
set_option maxRecDepth 4000
namespace Go.Ab
open Go.Proofs

theorem map_snoc {α : Type} {f : α → List D} {l : List α} {x : α} {row : List D} (e : row = f x) : l.map f ++ [row] = (l ++ [x]).map f := by rw [List.map_append, e]; rfl
theorem len_snoc {α : Type} {f : α → List D} {l : List α} (x : α) : (l.map f).length + 1 = (l ++ [x]).length := by simp

set_option maxHeartbeats 2000000 in
theorem without03_ok (v : Val) (key : ByteArray) (hv : Vg v) (k : v.kind = 6) : PCall Tryz.prog 68 [vVal v, vStr key] (vVP (wVal v key) 0) := by
  have hlen : v.keys.length = v.items.length := (vok_obj hv.ok k).1
  have hs := hv.sm.keys
  have h1 := object03_ok v
  rw [tt_iff.2 ⟨k, hv.ok⟩] at h1
  have hw : vVal (wVal v key) = .agg [.d (.lit (.int .i64 6)), .d (.lit (.string ⟨#[]⟩)), .d (.lit (.string ⟨#[]⟩)), .d (.sl ((((v.keys.zip v.items).filter (notK key)).map (·.2)).map Val.cells)), .d (.sl ((((v.keys.zip v.items).filter (notK key)).map (·.1)).map strC))] := rfl
  unfold vVP
  rw [hw]
  have hZ : ∀ j (h : j < v.keys.length) (h' : j < v.items.length), (v.keys.zip v.items).take (j + 1) = (v.keys.zip v.items).take j ++ [(v.keys[j], v.items[j])] := fun j h h' => by
    rw [List.take_add_one, List.getElem?_eq_getElem (by simp; omega)]; simp
  have hZl : (v.keys.zip v.items).length = v.keys.length := by simp [hlen]
  have hfl : ∀ j, ((((v.keys.zip v.items).take j).filter (notK key))).length ≤ v.keys.length := fun j => by
    have := List.length_filter_le (notK key) ((v.keys.zip v.items).take j)
    simp only [List.length_take] at this
    omega
  generalize v.keys.zip v.items = Z at hZ hZl hfl
  refine PCall.of_fx TTok mixed Tryz.func68 rfl (by decide) rfl rfl ?_
  conv => whnf
  refine h1.use (.refl _) ?_
  conv => whnf
  refine ⟨SExec.up 9 1 ⟨48, [(7, vInt (0 : Nat)), (6, .bx 2 0), (4, .bx 1 0), (2, .bx 0 0), (1, vStr key), (5, vInt 0)], [.row 33 (cellsV (vVal v)), .row 33 zVal, .row 33 (oVal (.d (.lit (.slice none 0 0))) (.gs 3 [])), .tok 9 1 0]⟩ _ rfl
    (.cons (.refl _) (.cons (.refl _) (.cons (.row (.cons (.refl _ _) (.cons (.refl _ _) (.cons (.refl _ _) (.cons (.refl _ _) (.cons (.nil _) .nil)))))) .nil))) rfl (.cons (.refl _ _) (.cons (.refl _ _) (.cons (.refl _ _) (.cons (.refl _ _) (.cons (.refl _ _) (.cons (.refl _ _) .nil)))))) ?_⟩
  refine SExec.up 33 5 ⟨48, [(7, vInt (0 : Nat)), (6, .bx 2 0), (4, .bx 1 0), (2, .bx 0 0), (1, vStr key), (5, vInt 0)], [.row 33 (cellsV (vVal v)), .row 33 zVal, .row 33 (oVal (.gs 4 []) (.gs 3 [])), .tok 9 1 0, .tok 33 5 0]⟩ _ rfl
    (.cons (.refl _) (.cons (.refl _) (.cons (.row (.cons (.refl _ _) (.cons (.refl _ _) (.cons (.refl _ _) (.cons (.nil _) (.cons (.refl _ _) .nil)))))) (.cons (.refl _) .nil)))) rfl (.cons (.refl _ _) (.cons (.refl _ _) (.cons (.refl _ _) (.cons (.refl _ _) (.cons (.refl _ _) (.cons (.refl _ _) .nil)))))) ?_
  refine SExec.loop_n v.keys.length (fun j => ⟨48, [(7, vInt j), (6, .bx 2 0), (4, .bx 1 0), (2, .bx 0 0), (1, vStr key), (5, vInt 0)],
      [.row 33 (cellsV (vVal v)), .row 33 zVal, .row 33 (oVal (.gs 4 ((((Z.take j).filter (notK key)).map (·.2)).map Val.cells)) (.gs 3 ((((Z.take j).filter (notK key)).map (·.1)).map strC))),
       .tok 9 1 (((Z.take j).filter (notK key)).map (·.1)).length, .tok 33 5 (((Z.take j).filter (notK key)).map (·.2)).length]⟩)
    (fun k => Nat.le_refl _) (St.subD_of rfl [] rfl rfl (.cons (.refl _) rfl (.cons (.refl _) rfl (.cons (.refl _) rfl (.cons (.refl _) rfl (.cons (.refl _) rfl (.cons (.refl _) rfl .nil))))))) ?_
  intro j hj
  refine fx_sound TTok mixed ?_
  conv => whnf
  refine bsel_intro (fun hlt => ?_) (fun hlt => ?_)
  · have hlt : j < v.keys.length := by simpa using hlt
    have hlt' : j < v.items.length := by omega
    have fl := hfl j
    have eZ := hZ j hlt hlt'
    conv => whnf
    refine idxStr hlt rfl ?_
    conv => whnf
    refine bsel_intro (fun h2 => ?_) (fun h2 => ?_)
    · have h2 : notK key (v.keys[j], v.items[j]) = true := by simpa [notK] using h2
      have eF : ((Z.take (j + 1)).filter (notK key)) = ((Z.take j).filter (notK key)) ++ [(v.keys[j], v.items[j])] := by rw [eZ, List.filter_append, List.filter_cons, if_pos h2]; rfl
      conv => whnf
      refine ⟨SExec.region_fG TTok mixed 0 0 (by decide +kernel) rfl rfl ?_⟩
      conv => whnf
      refine idxStr hlt rfl ?_
      conv => whnf
      refine ⟨rfl, ?_⟩
      conv => whnf
      refine ⟨⟨Nat.zero_le _, appC (j := tt9) (by simp) rfl (by decide) (rowsLen (f := strC) (fun _ => rfl) _) (oneLen rfl) rfl (by decide) (by simp [chunk]; omega)⟩, ?_⟩
      conv => whnf
      refine ⟨SExec.region_fG TTok mixed 0 0 (by decide +kernel) rfl rfl ?_⟩
      conv => whnf
      refine idxVal hlt' rfl ?_
      conv => whnf
      refine ⟨rfl, ?_⟩
      conv => whnf
      refine ⟨⟨Nat.zero_le _, appC (j := tt33) (by simp) rfl (by decide) (rowsLen (f := Val.cells) valLen _) (oneLen rfl) rfl (by decide) (by simp [chunk]; omega)⟩, ?_⟩
      conv => whnf
      refine ⟨hlt, St.subD_of rfl [] ?_ rfl (.cons (.of_eq (vInt_succ j (by omega))) rfl (.cons (.refl _) rfl (.cons (.refl _) rfl (.cons (.refl _) rfl (.cons (.refl _) rfl (.cons (.refl _) rfl .nil))))))⟩
      show _ = [O.row _ _, O.row _ _, O.row _ (oVal (.gs 4 ((((Z.take (j + 1)).filter (notK key)).map (·.2)).map Val.cells)) (.gs 3 ((((Z.take (j + 1)).filter (notK key)).map (·.1)).map strC))), .tok _ _ (((Z.take (j + 1)).filter (notK key)).map (·.1)).length, .tok _ _ (((Z.take (j + 1)).filter (notK key)).map (·.2)).length]
      rw [eF]
      simp only [List.map_append, List.map_cons, List.map_nil]
      exact congr4 (fun a b c d => [O.row 33 (cellsV (vVal v)), .row 33 zVal, .row 33 (oVal (.gs 4 c) (.gs 3 a)), .tok 9 1 b, .tok 33 5 d])
        rfl (by simp [chunk]) (by rw [Val.cells_eq]; rfl) (by simp [chunk])
    · have h2 : notK key (v.keys[j], v.items[j]) = false := by simpa [notK] using h2
      have eF : ((Z.take (j + 1)).filter (notK key)) = ((Z.take j).filter (notK key)) := by rw [eZ, List.filter_append, List.filter_cons, if_neg (by rw [h2]; simp)]; simp
      conv => whnf
      refine ⟨hlt, St.subD_of rfl [] ?_ rfl (.cons (.of_eq (vInt_succ j (by omega))) rfl (.cons (.refl _) rfl (.cons (.refl _) rfl (.cons (.refl _) rfl (.cons (.refl _) rfl (.cons (.refl _) rfl .nil))))))⟩
      show _ = [O.row _ _, O.row _ _, O.row _ (oVal (.gs 4 ((((Z.take (j + 1)).filter (notK key)).map (·.2)).map Val.cells)) (.gs 3 ((((Z.take (j + 1)).filter (notK key)).map (·.1)).map strC))), .tok _ _ (((Z.take (j + 1)).filter (notK key)).map (·.1)).length, .tok _ _ (((Z.take (j + 1)).filter (notK key)).map (·.2)).length]
      rw [eF]; rfl
  · have hge : v.keys.length ≤ j := by simpa using hlt
    rw [List.take_of_length_le (by omega : Z.length ≤ j)]
    conv => whnf
    exact retP TTok rfl (.tup (.cons (.agg (.cons (.refl _) (.cons (.refl _) (.cons (.refl _) (.cons (.gs_sl _ _) (.cons (.gs_sl _ _) .nil)))))) (.cons (.refl _) .nil))) rfl

/-! ### Alternatives -/
theorem layO_of {o : Ob} (h : (vOb o).Bd) : ∀ x ∈ o.lay, x.Bd := by
  intro x hx
  obtain ⟨j, hj, rfl⟩ := List.mem_iff_getElem.1 hx
  refine h j _ ?_
  show (o.lay.map V.d)[j]? = _
  simp [hj]
theorem whereL_first {n : ByteArray} : ∀ {l : List ByteArray} {k i : Nat} (h : k < l.length), l[k] = n → (∀ j (h : j < l.length), j < k → l[j] ≠ n) → whereL l n i = some (i + k)
  | x :: l, 0, i, _, e, _ => by rw [whereL, if_pos (by simpa using e)]; rfl
  | x :: l, k + 1, i, h, e, hj => by
    rw [whereL, if_neg (by have := hj 0 (by simp) (by omega); simpa using this), whereL_first (l := l) (k := k) (by simpa using h) (by simpa using e) (fun j h' hjk => by have := hj (j + 1) (by simpa using h') (by omega); simpa using this)]
    congr 1; omega
def zTy : List V := [.d (.lit (.bool false)), .d (.lit (.bool false)), .d (.lit (.bool false)), .d (.lit (.bool false)), .d (.lit (.slice none 0 0)), .d (.lit (.bool false)), .d (.lit (.slice none 0 0)), .d (.lit (.slice none 0 0)), .d (.lit (.slice none 0 0))]
def vTB (t : Ty) (b : Bool) : V := .tup [vTy t, vBool b]
set_option maxHeartbeats 2000000 in
theorem field12_ok (o : Ob) (n : ByteArray) (h1 : o.names.length = o.fields.length) (h2 : o.names.length = o.must.length) : PCall Tryz.prog 67 [vOb o, vStr n] (vTB (fieldO o n).1 (fieldO o n).2) := by
  refine PCall.bd Tryz.func67 rfl (by decide) rfl rfl (fun hbd => ?_)
  have hbo := ob_bd (layO_of (hbd 0 (by simp)))
  have hb := hbo.names
  simp only [maxRows] at hb
  refine PCall.of_fx TTok mixed Tryz.func67 rfl (by decide) rfl rfl ?_
  conv => whnf
  refine ⟨SExec.loop_p o.names.length (fun k => ∀ j (h : j < o.names.length), j < k → o.names[j] ≠ n) (fun k => ⟨33, [(6, vInt k), (4, .bx 1 0), (2, .bx 0 0), (1, vStr n), (5, vBool false)], [.row 44 (cellsV (vOb o)), .row 27 zTy]⟩) (fun j _ h => absurd h (Nat.not_lt_zero j)) (fun k => Nat.le_refl _) (St.subD_of rfl [] rfl rfl (.cons (.refl _) rfl (.cons (.refl _) rfl (.cons (.refl _) rfl (.cons (.refl _) rfl (.cons (.refl _) rfl .nil)))))) ?_⟩
  intro k hk hI
  refine fx_sound TTok mixed ?_
  conv => whnf
  refine bsel_intro (fun hlt => ?_) (fun hlt => ?_)
  · have hlt : k < o.names.length := by simpa using hlt
    conv => whnf
    refine idxStr hlt rfl ?_
    conv => whnf
    refine bsel_intro (fun h3 => ?_) (fun h3 => ?_)
    · have h3 : o.names[k] = n := strEq_iff.1 h3
      have hf : k < o.fields.length := by omega
      have hm : k < o.must.length := by omega
      have e : fieldO o n = (o.fields[k], o.must[k]) := by
        unfold fieldO
        rw [whereL_first hlt h3 hI, Nat.zero_add]
        simp [List.getD_eq_getElem?_getD, hf, hm]
      rw [e]
      conv => whnf
      refine ⟨SExec.region_fG TTok mixed 0 0 (by decide +kernel) rfl rfl ?_⟩
      conv => whnf
      refine idxTy hf rfl ?_
      conv => whnf
      refine idxBool hm rfl ?_
      conv => whnf
      exact retP TTok rfl (.refl _) rfl
    · have h3 : o.names[k] ≠ n := strEq_not.1 h3
      conv => whnf
      exact ⟨⟨hlt, fun j hj hjk => by
        rcases Nat.lt_or_ge j k with h | h
        · exact hI j hj h
        · have : j = k := by omega
          subst this; exact h3⟩, St.subD_of rfl [] rfl rfl (.cons (.of_eq (vInt_succ k (by omega))) rfl (.cons (.refl _) rfl (.cons (.refl _) rfl (.cons (.refl _) rfl (.cons (.refl _) rfl .nil)))))⟩
  · have hge : o.names.length ≤ k := by simpa using hlt
    have hn : n ∉ o.names := fun h => by
      obtain ⟨j, hj, e⟩ := List.mem_iff_getElem.1 h
      exact hI j hj (by omega) e
    rw [fieldO_out hn]
    conv => whnf
    exact retP TTok rfl (.refl _) rfl
end Go.Ab
set_option linter.unusedVariables false
set_option linter.unusedSimpArgs false
set_option maxRecDepth 4000
namespace Go.Ab
open Go.Proofs

/-! ### The names of two alternatives -/
noncomputable def newS (a : Ob) (l : List ByteArray) : List ByteArray := l.filter fun n => !tt (n ∈ a.names)
noncomputable def names12 (a b : Ob) : List ByteArray := a.names ++ newS a b.names
theorem names12_of (a b : Ob) : NamesOf a b (names12 a b) := ⟨fun n => by
  unfold names12 newS
  rw [List.mem_append, List.mem_filter]
  by_cases h : n ∈ a.names
  · exact ⟨fun _ => .inl h, fun _ => .inl h⟩
  · rw [tt_not.2 h]; simp [h]⟩
theorem names12_len (a b : Ob) : (names12 a b).length ≤ a.names.length + b.names.length := by
  unfold names12 newS
  have := List.length_filter_le (fun n => !tt (n ∈ a.names)) b.names
  simp only [List.length_append]; omega
set_option maxHeartbeats 2000000 in
theorem names12_ok (a b : Ob) (ha : a.names.length ≤ 100000) (hb : b.names.length ≤ 100000) : PCall Tryz.prog 66 [vOb a, vOb b] (vStrs (names12 a b)) := by
  have hfl : ∀ k, (newS a (b.names.take k)).length ≤ b.names.length := fun k => by
    have := List.length_filter_le (fun n => !tt (n ∈ a.names)) (b.names.take k)
    simp only [List.length_take] at this
    unfold newS; omega
  refine PCall.of_fx TTok mixed Tryz.func66 rfl (by decide) rfl rfl ?_
  conv => whnf
  refine ⟨⟨_, _, Yl.buildSlice0 rfl Tryz.underlying23 (ti_is tt9_ok), ?_⟩⟩
  conv => whnf
  refine ⟨SExec.loop_n a.names.length (fun k => ⟨49, [(6, vInt k), (5, .gs 2 ((a.names.take k).map strC)), (3, .bx 1 0), (2, .bx 0 0)], [.row 44 (cellsV (vOb a)), .row 44 (cellsV (vOb b)), .tok 9 1 (a.names.take k).length]⟩) (fun k => Nat.le_refl _) (St.subD_of rfl [] rfl rfl (.cons (.refl _) rfl (.cons (.refl _) rfl (.cons (.refl _) rfl (.cons (.refl _) rfl .nil))))) ?_⟩
  intro k hk
  refine fx_sound TTok mixed ?_
  conv => whnf
  refine bsel_intro (fun hlt => ?_) (fun hlt => ?_)
  · have hlt : k < a.names.length := by simpa using hlt
    conv => whnf
    refine idxStr hlt rfl ?_
    conv => whnf
    refine ⟨appC (j := tt9) (by simp) rfl (by decide) (rowsLen (f := strC) (fun _ => rfl) _) (oneLen rfl) rfl (by decide) (by simp [chunk]; omega), ?_⟩
    conv => whnf
    exact ⟨hlt, St.subD_of rfl [] (congrArg (fun n => [O.row 44 (cellsV (vOb a)), .row 44 (cellsV (vOb b)), .tok 9 1 n]) (lenNext (f := strC) hlt)) rfl (.cons (.of_eq (vInt_succ k (by omega))) rfl (.cons (.of_eq (congrArg (V.gs 2) (rowsNext hlt rfl))) rfl (.cons (.refl _) rfl (.cons (.refl _) rfl .nil))))⟩
  have hge : a.names.length ≤ k := by simpa using hlt
  rw [List.take_of_length_le hge]
  conv => whnf
  refine ⟨SExec.loop_n b.names.length (fun k => ⟨49, [(7, vInt k), (5, .gs 2 ((a.names ++ newS a (b.names.take k)).map strC)), (3, .bx 1 0), (2, .bx 0 0)], [.row 44 (cellsV (vOb a)), .row 44 (cellsV (vOb b)), .tok 9 1 (a.names ++ newS a (b.names.take k)).length]⟩) (fun k => Nat.le_refl _)
    (St.subD_of rfl [] (by simp [newS]; rfl) rfl (.cons (.refl _) rfl (.cons (.of_eq (by simp [newS]; rfl)) rfl (.cons (.refl _) rfl (.cons (.refl _) rfl .nil))))) ?_⟩
  intro k hk
  refine fx_sound TTok mixed ?_
  conv => whnf
  refine bsel_intro (fun hlt => ?_) (fun hlt => ?_)
  · have hlt : k < b.names.length := by simpa using hlt
    have fl := hfl k
    have en : newS a (b.names.take (k + 1)) = newS a (b.names.take k) ++ newS a [b.names[k]] := by unfold newS; rw [take_next hlt, List.filter_append]
    conv => whnf
    (refine ⟨by decide +kernel, ?_⟩; conv => whnf)
    refine idxStr hlt rfl ?_
    conv => whnf
    refine (has_ok a.names b.names[k]).useQ (.refl _) ?_
    conv => whnf
    refine bsel_intro (fun h2 => ?_) (fun h2 => ?_)
    · have h2 : b.names[k] ∉ a.names := tt_not.1 (by simpa using h2)
      have e1 : newS a [b.names[k]] = [b.names[k]] := by unfold newS; rw [List.filter_cons, if_pos (by rw [tt_not.2 h2]; rfl)]; rfl
      conv => whnf
      refine idxStr hlt rfl ?_
      conv => whnf
      refine ⟨appC (j := tt9) (by simp) rfl (by decide) (rowsLen (f := strC) (fun _ => rfl) _) (oneLen rfl) rfl (by decide) (by simp [chunk]; omega), ?_⟩
      conv => whnf
      refine ⟨hlt, St.subD_of rfl [] (?_ : _ = [O.row 44 (cellsV (vOb a)), .row 44 (cellsV (vOb b)), .tok 9 1 (a.names ++ newS a (b.names.take (k + 1))).length]) rfl (.cons (.of_eq (vInt_succ k (by omega))) rfl (.cons (.of_eq (?_ : _ = V.gs 2 ((a.names ++ newS a (b.names.take (k + 1))).map strC))) rfl (.cons (.refl _) rfl (.cons (.refl _) rfl .nil))))⟩
      · rw [en, e1, ← List.append_assoc]
        exact congrArg (fun n => [O.row 44 (cellsV (vOb a)), .row 44 (cellsV (vOb b)), .tok 9 1 n]) (len_snoc (f := strC) _)
      · rw [en, e1, ← List.append_assoc]
        exact congrArg (V.gs 2) (map_snoc (f := strC) rfl)
    · have h2 : b.names[k] ∈ a.names := tt_iff.1 (by simpa using h2)
      have e1 : newS a [b.names[k]] = [] := by unfold newS; rw [List.filter_cons, if_neg (by rw [tt_iff.2 h2]; simp)]; rfl
      conv => whnf
      refine ⟨hlt, St.subD_of rfl [] (?_ : _ = [O.row 44 (cellsV (vOb a)), .row 44 (cellsV (vOb b)), .tok 9 1 (a.names ++ newS a (b.names.take (k + 1))).length]) rfl (.cons (.of_eq (vInt_succ k (by omega))) rfl (.cons (.of_eq (?_ : _ = V.gs 2 ((a.names ++ newS a (b.names.take (k + 1))).map strC))) rfl (.cons (.refl _) rfl (.cons (.refl _) rfl .nil))))⟩
      · rw [en, e1, List.append_nil]; rfl
      · rw [en, e1, List.append_nil]; rfl
  · have hge : b.names.length ≤ k := by simpa using hlt
    rw [List.take_of_length_le hge]
    conv => whnf
    exact retP TTok rfl (.gs_sl _ _) rfl

/-! ### Every, laid out -/
def zL : D := .lit (.slice none 0 0)
def bL (b : Bool) : D := .lit (.bool b)
theorem entAr1 : EntV (.xs [[bL true, bL false, bL false, bL false, zL, bL false, zL, zL, zL, .lit (.int .i64 0), .lit (.int .i64 (-1))]]) (vArs [arOpen]) := by
  have e : vArs [arOpen] = .d (.sl [arOpen.lay]) := by simp [vArs, Ar.cells_eq]
  rw [e]; exact .nz_xs rfl
theorem entOb1 : EntV (.xs [[zL, zL, zL, bL true, bL false, bL false, bL false, zL, bL false, zL, zL, zL]]) (vObs [obOpen]) := by
  have e : vObs [obOpen] = .d (.sl [obOpen.lay]) := by simp [vObs, Ob.cells_eq]
  rw [e]; exact .nz_xs rfl
theorem laid12_ok (t : Ty) : PCall Tryz.prog 20 [vTy t] (vTy (laid t)) := by
  refine PCall.of_fx TTok mixed Tryz.func20 rfl (by decide) rfl rfl ?_
  conv => whnf
  refine bsel_intro (fun h1 => ?_) (fun h1 => ?_)
  · have h1 : t.all = false := by simpa using h1
    conv => whnf
    exact retP TTok rfl (.of_eq (by rw [laid_of_not h1]; rfl)) rfl
  · have h1 : t.all = true := by simpa using h1
    conv => whnf
    exact retP TTok rfl (by
      rw [laid_of_all h1]
      exact .agg (.cons (.refl _) (.cons (.refl _) (.cons (.refl _) (.cons (.refl _) (.cons (.xs_sl _) (.cons (.refl _) (.cons .nil_sl (.cons entAr1 (.cons entOb1 .nil)))))))))) rfl

/-! ### Spans -/
set_option maxHeartbeats 2000000 in
theorem hollow12_ok (s : Sp) (hs : SpOk s) : PCall Tryz.prog 57 [vSp s] (vBool (tt (Hollow s))) := by
  refine PCall.of_fx TTok mixed Tryz.func57 rfl (by decide) rfl rfl ?_
  conv => whnf
  refine bsel_intro (fun h1 => ?_) (fun h1 => ?_)
  · have h1 : s.low ≠ ⟨#[]⟩ := strEq_not.1 (by simpa using h1)
    conv => whnf
    refine bsel_intro (fun h2 => ?_) (fun h2 => ?_)
    · have h2 : s.high ≠ ⟨#[]⟩ := strEq_not.1 (by simpa using h2)
      conv => whnf
      refine (numbers_ok s.low s.high (hs.1.resolve_left h1) (hs.2.resolve_left h2)).use (.refl _) ?_
      conv => whnf
      exact retB TTok rfl (tt_eq ⟨fun h => ⟨h1, h2, of_decide_eq_true h⟩, fun h => decide_eq_true h.2.2⟩)
    · have h2 : s.high = ⟨#[]⟩ := strEq_iff.1 (by simpa using h2)
      conv => whnf
      exact retB TTok rfl (tt_f fun h => h.2.1 h2)
  · have h1 : s.low = ⟨#[]⟩ := strEq_iff.1 (by simpa using h1)
    conv => whnf
    exact retB TTok rfl (tt_f fun h => h.1 h1)
end Go.Ab
