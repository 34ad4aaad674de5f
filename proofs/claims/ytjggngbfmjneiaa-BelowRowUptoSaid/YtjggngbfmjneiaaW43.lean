import Derived.Test.YtjggngbfmjneiaaW42
import Derived.Test.YtjggngbfmjneiaaPZ
set_option linter.unusedVariables false
set_option linter.unusedSimpArgs false
set_option maxRecDepth 4000
namespace Go.Ab
open Go.Proofs

theorem strEq_refl (a : ByteArray) : strEq a a = true := strEq_iff.2 rfl
theorem cisNaN_ok (a : ByteArray) : PCall Try.prog 92 [vStr a] (vBool false) := by
  refine PCall.of_fx TTok mixed Try.func92 rfl (by decide) rfl rfl ?_
  conv => whnf
  exact retB TTok rfl (by simp [strEq_refl])
theorem sisNaN_ok (a : ByteArray) : PCall Try.prog 117 [vStr a] (vBool false) := by
  refine PCall.of_fx TTok mixed Try.func117 rfl (by decide) rfl rfl ?_
  conv => whnf
  exact retB TTok rfl (by simp [strEq_refl])
theorem less_ok (a b : ByteArray) : PCall Try.prog 116 [vStr a, vStr b] (vBool (strLt a b)) := by
  refine PCall.of_fx TTok mixed Try.func116 rfl (by decide) rfl rfl ?_
  conv => whnf
  refine (cisNaN_ok a).use (.refl _) ?_
  conv => whnf
  exact retB TTok rfl rfl

theorem wrapU {n : Int} (h : 0 ≤ n) (k : n < 18446744073709551616) : IntKind.u64.wrap n = n := by
  unfold IntKind.wrap; simp [IntKind.bits, IntKind.signed]; omega
theorem idx_conv {rows : List (List D)} {i j : Int} {n : Nat} {K : V → List O → Prop} {H : List O} (e : i = j) (h : IdxS rows j n K H) : IdxS rows i n K H := e ▸ h
set_option maxHeartbeats 2000000 in
theorem bsearch_ok (l : List ByteArray) (s : ByteArray) (hs : Sorted l) : PCall Try.prog 110 [vStrs l, vStr s] (.tup [vInt (seat l s), vBool (tt (s ∈ l))]) := by
  refine PCall.bd Try.func110 rfl (by decide) rfl rfl (fun hbd => ?_)
  have hl : l.length ≤ 140737488355328 := bd_map (hbd 0 (by simp))
  refine PCall.of_fx TTok mixed Try.func110 rfl (by decide) rfl rfl ?_
  conv => whnf
  refine ⟨SExec.loop_i (fun p : Nat × Nat => ⟨54, [(8, vInt p.2), (7, vInt p.1), (6, vInt l.length), (1, vStr s), (0, vStrs l)], []⟩)
    (fun p => p.1 ≤ p.2 ∧ p.2 ≤ l.length ∧ (∀ k (h : k < l.length), k < p.1 → strLt l[k] s = true) ∧ ∀ k (h : k < l.length), p.2 ≤ k → strLt l[k] s = false) (fun p => p.2 - p.1)
    (0, l.length) ⟨by omega, by dsimp only; omega, fun k _ h => absurd h (Nat.not_lt_zero _), fun k h h' => by dsimp only at h'; omega⟩
    (fun k => Nat.le_refl _) (St.subD_of rfl [] rfl rfl (.cons (.of_eq (vInt_len ..)) rfl (.cons (.refl _) rfl (.cons (.of_eq (vInt_len ..)) rfl (.cons (.refl _) rfl (.cons (.refl _) rfl .nil)))))) ?_⟩
  rintro ⟨i, j⟩ ⟨hij, hj, h1, h2⟩
  dsimp only at hij hj h1 h2
  refine fx_sound TTok mixed ?_
  conv => whnf
  refine bsel_intro (fun hlt => ?_) (fun hlt => ?_)
  · have hlt : i < j := by simpa using hlt
    have hm : (i + j) / 2 < l.length := by omega
    have em : IntKind.i64.wrap ((IntKind.u64.wrap (IntKind.i64.wrap (((i : Nat) : Int) + ((j : Nat) : Int)))).fdiv (2 ^ min (Int.toNat 1) IntKind.u64.bits)) = (((i + j) / 2 : Nat) : Int) := by
      rw [wrap_id (n := (i : Int) + j) (by omega) (by omega), wrapU (by omega) (by omega)]
      have e2 : (2 : Int) ^ min (Int.toNat 1) IntKind.u64.bits = 2 := by decide
      rw [e2, Int.fdiv_eq_ediv_of_nonneg _ (by decide), wrap_id (by omega) (by omega)]
      omega
    conv => whnf
    refine idx_conv em (idxStr hm rfl ?_)
    conv => whnf
    refine (less_ok l[(i + j) / 2] s).use (.refl _) ?_
    conv => whnf
    refine bsel_intro (fun hc => ?_) (fun hc => ?_)
    · have hc : strLt l[(i + j) / 2] s = true := by simpa using hc
      conv => whnf
      refine ⟨((i + j) / 2 + 1, j), ⟨by dsimp only; omega, hj, fun k h hk => ?_, h2⟩, by dsimp only; omega, St.subD_of rfl _ rfl rfl (.cons (.refl _) rfl (.cons (.of_eq ((congrArg (fun z => V.d (.lit (.int .i64 (IntKind.i64.wrap (z + 1))))) em).trans (vInt_succ _ (by omega)))) rfl (.cons (.refl _) rfl (.cons (.refl _) rfl (.cons (.refl _) rfl .nil)))))⟩
      · dsimp only at hk
        by_cases e : k = (i + j) / 2
        · subst e; exact hc
        · exact strLt_trans (hs k _ h hm (by omega)) hc
    · have hc : strLt l[(i + j) / 2] s = false := by simpa using hc
      conv => whnf
      refine ⟨(i, (i + j) / 2), ⟨by dsimp only; omega, by dsimp only; omega, h1, fun k h hk => ?_⟩, by dsimp only; omega, St.subD_of rfl _ rfl rfl (.cons (.of_eq (congrArg vInt em)) rfl (.cons (.refl _) rfl (.cons (.refl _) rfl (.cons (.refl _) rfl (.cons (.refl _) rfl .nil)))))⟩
      dsimp only at hk
      by_cases e : k = (i + j) / 2
      · subst e; exact hc
      · cases hx : strLt l[k] s with
        | false => rfl
        | true => have := strLt_trans (hs _ k hm h (by omega)) hx; rw [hc] at this; cases this
  · have hge : i = j := by have : j ≤ i := by simpa using hlt
                           omega
    subst hge
    have hmem := seat_mem hs h1 h2
    have hseat := seat_eq hj h1 h2
    rw [hseat]
    conv => whnf
    refine bsel_intro (fun hi => ?_) (fun hi => ?_)
    · have hi : i < l.length := by simpa using hi
      conv => whnf
      refine idxStr hi rfl ?_
      conv => whnf
      refine bsel_intro (fun he => ?_) (fun he => ?_)
      · have he : l[i] ≠ s := strEq_not.1 (by simpa using he)
        conv => whnf
        refine idxStr hi rfl ?_
        conv => whnf
        refine (sisNaN_ok l[i]).use (.refl _) ?_
        conv => whnf
        exact retP TTok rfl (.of_eq (by rw [tt_not.2 (fun h => he (hmem.1 h).2)]; rfl)) rfl
      · have he : l[i] = s := strEq_iff.1 (by simpa using he)
        conv => whnf
        exact retP TTok rfl (.of_eq (by rw [tt_iff.2 (hmem.2 ⟨hi, he⟩)]; rfl)) rfl
    · have hi : ¬ i < l.length := by simpa using hi
      conv => whnf
      exact retP TTok rfl (.of_eq (by rw [tt_not.2 (fun h => hi (hmem.1 h).1)]; rfl)) rfl

theorem field_ok (o : Ob) (n : ByteArray) (hs : Sorted o.names) (h1 : o.names.length = o.fields.length) (h2 : o.names.length = o.must.length) : PCall Try.prog 102 [vOb o, vStr n] (.tup [vTy (fieldO o n).1, vBool (fieldO o n).2]) := by
  refine PCall.of_fx TTok mixed Try.func102 rfl (by decide) rfl rfl ?_
  conv => whnf
  refine (bsearch_ok o.names n hs).use (.refl _) ?_
  conv => whnf
  refine bsel_intro (fun hc => ?_) (fun hc => ?_)
  · have hc : n ∈ o.names := tt_iff.1 (by simpa using hc)
    obtain ⟨m, hm, hk⟩ := List.mem_iff_getElem.1 hc
    have hseat : seat o.names n = m := seat_eq (by omega) (fun k h hlt => by rw [← hk]; exact hs k m h hm hlt) (fun k h hle => by
      by_cases e : m = k
      · subst e; rw [hk]; exact strLt_irrefl n
      · cases hx : strLt o.names[k] n with
        | false => rfl
        | true =>
          have := strLt_trans (hs m k hm h (by omega)) hx
          rw [hk, strLt_irrefl] at this; cases this)
    have hw := whereL_at hs hm hk
    have e1 : fieldO o n = (o.fields[m]'(by omega), o.must[m]'(by omega)) := by
      unfold fieldO
      rw [hw]
      simp only [List.getD_eq_getElem?_getD]
      rw [List.getElem?_eq_getElem (by omega), List.getElem?_eq_getElem (by omega)]; rfl
    rw [e1]
    rw [hseat]
    conv => whnf
    refine ⟨SExec.region_fE TTok mixed 1 (by decide +kernel) rfl rfl ?_⟩
    conv => whnf
    refine idxTy (by omega) rfl ?_
    conv => whnf
    refine idxBool (by omega) rfl ?_
    conv => whnf
    exact retP TTok rfl (.refl _) rfl
  · have hc : n ∉ o.names := tt_not.1 (by simpa using hc)
    have e1 : fieldO o n = (o.rest, false) := by
      unfold fieldO
      rw [whereL_none.2 hc]
    rw [e1]
    conv => whnf
    exact retP TTok rfl (.refl _) rfl
end Go.Ab
