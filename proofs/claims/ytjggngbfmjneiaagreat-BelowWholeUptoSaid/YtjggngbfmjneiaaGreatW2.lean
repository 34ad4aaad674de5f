import Derived.Test.YtjggngbfmjneiaaGreatPC
import Derived.Test.YtjggngbfmjneiaaGreatTab
set_option linter.unusedVariables false
set_option linter.unusedSimpArgs false
namespace Go.Ab
open Go.Proofs

theorem texts_ok (a b : ByteArray) : PCall Tryz.prog 89 [vStr a, vStr b] (vInt (cmpS a b)) := by
  refine PCall.of_fx TTok mixed Tryz.func89 rfl (by decide) rfl rfl ?_
  conv => whnf
  refine bsel_intro (fun h => ?_) (fun h => ?_)
  · conv => whnf
    exact retI TTok rfl (by simp [cmpS, h])
  · conv => whnf
    refine bsel_intro (fun h2 => ?_) (fun h2 => ?_)
    · conv => whnf
      exact retI TTok rfl (by simp [h] at h2; simp [cmpS, h, h2])
    · conv => whnf
      exact retI TTok rfl (by simp [h] at h2; simp [cmpS, h, h2])
end Go.Ab
set_option linter.unusedVariables false
set_option linter.unusedSimpArgs false
set_option maxRecDepth 4000
namespace Go.Ab
open Go.Proofs

theorem trail_ok (s : ByteArray) (i n : Nat) (low high : Int) (l h : Nat) (el : low = l) (eh : high = h) (hn : 0 < n) (hn4 : n ≤ 4) (hi : i ≤ 4611686018427387905) : PCall Tryz.prog 103 [vStr s, vInt i, vInt n, vU8 low, vU8 high] (vBool (tt (Trail s i n l h))) := by
  subst el eh
  refine PCall.bd Tryz.func103 rfl (by decide) rfl rfl (fun hbd => ?_)
  have hs : s.size ≤ 4611686018427387904 := D.Bd.str (hbd 0 (by simp))
  refine PCall.of_fx TTok mixed Tryz.func103 rfl (by decide) rfl rfl ?_
  conv => whnf
  have hw : IntKind.i64.wrap ((i : Int) + n) = (i + n : Nat) := by rw [wrap_id (by omega) (by omega)]; omega
  refine bsel_intro (fun hgt => ?_) (fun hle => ?_)
  · rw [hw] at hgt
    have hgt := dlt hgt
    conv => whnf
    exact retB TTok rfl (tt_f fun k => by have := k.fits; omega)
  rw [hw] at hle
  have hle := dge hle
  conv => whnf
  refine ⟨SExec.loop_p n (fun k => ∀ j, j < k → 128 ≤ bt s (i + j) ∧ bt s (i + j) ≤ 191) (fun k => ⟨49, [(11, vInt k), (0, vStr s), (1, vInt i), (2, vInt n), (3, vU8 l), (4, vU8 h)], []⟩) upto_zero
    (fun k => Nat.le_refl _) (St.subD_of rfl [] rfl rfl (.cons (.refl _) rfl (.cons (.refl _) rfl (.cons (.refl _) rfl (.cons (.refl _) rfl (.cons (.refl _) rfl (.cons (.refl _) rfl .nil))))))) ?_⟩
  intro k hk hI
  refine fx_sound TTok mixed ?_
  conv => whnf
  have hwk : k < n → IntKind.i64.wrap ((i : Int) + k) = (i + k : Nat) := fun h => by rw [wrap_id (by omega) (by omega)]; omega
  refine bsel_intro (fun hlt => ?_) (fun hge => ?_)
  · have hlt := dec_lt hlt
    conv => whnf
    refine idxB (hwk hlt) (by omega) ?_
    conv => whnf
    refine bsel_intro (fun h1 => ?_) (fun h1 => ?_)
    · have h1 := dge (beqF h1)
      conv => whnf
      refine idxB (hwk hlt) (by omega) ?_
      conv => whnf
      refine bsel_intro (fun h2 => ?_) (fun h2 => ?_)
      · have h2 := dlt h2
        conv => whnf
        exact retB TTok rfl (tt_f fun t => by have := t.all k hlt; omega)
      have h2 := dge h2
      conv => whnf
      refine ⟨⟨hlt, upto_succ hI ⟨by omega, by omega⟩⟩, St.subD_of rfl _ rfl rfl (.cons (.of_eq (vInt_succ k (by omega))) rfl (.cons (.refl _) rfl (.cons (.refl _) rfl (.cons (.refl _) rfl (.cons (.refl _) rfl (.cons (.refl _) rfl .nil))))))⟩
    · have h1 := dlt (beqF h1)
      conv => whnf
      exact retB TTok rfl (tt_f fun t => by have := t.all k hlt; omega)
  · have hge := dec_ge hge
    obtain rfl : k = n := by omega
    conv => whnf
    refine idxB rfl (by omega) ?_
    conv => whnf
    refine bsel_intro (fun h1 => ?_) (fun h1 => ?_)
    · have h1 := dle (beqT h1)
      conv => whnf
      refine idxB rfl (by omega) ?_
      conv => whnf
      exact retB TTok rfl (tt_eq ⟨fun h2 => ⟨by omega, hI, by omega, by have := dle h2; omega⟩, fun t => by have := t.first; simp; omega⟩)
    · have h1 := dgt (beqT h1)
      conv => whnf
      exact retB TTok rfl (tt_f fun t => by have := t.first; omega)
end Go.Ab
set_option linter.unusedVariables false
set_option linter.unusedSimpArgs false
set_option maxRecDepth 4000
namespace Go.Ab
open Go.Proofs

theorem widc3 {s : ByteArray} {i c : Nat} (h : 224 ≤ c ∧ c ≤ 239) : widc s i c = if tt (Trail s (i + 1) 2 (lowOf c) (highOf c)) = true then 3 else 0 := by
  rw [widc, if_neg (by omega), if_neg (by omega)]
  by_cases k : tt (Trail s (i + 1) 2 (lowOf c) (highOf c)) = true
  · rw [if_pos ⟨h.1, h.2, k⟩, if_pos k]
  · rw [if_neg (fun t => k t.2.2), if_neg (by omega), if_neg k]
theorem widc4 {s : ByteArray} {i c : Nat} (h : 240 ≤ c ∧ c ≤ 244) : widc s i c = if tt (Trail s (i + 1) 3 (lowOf c) (highOf c)) = true then 4 else 0 := by
  rw [widc, if_neg (by omega), if_neg (by omega), if_neg (by omega)]
  by_cases k : tt (Trail s (i + 1) 3 (lowOf c) (highOf c)) = true
  · rw [if_pos ⟨h.1, h.2, k⟩, if_pos k]
  · rw [if_neg (fun t => k t.2.2), if_neg k]
theorem widc0 {s : ByteArray} {i c : Nat} (h : 128 ≤ c ∧ c < 194 ∨ 244 < c) : widc s i c = 0 := by
  rw [widc, if_neg (by omega), if_neg (by omega), if_neg (by omega), if_neg (by omega)]

theorem width_ok (s : ByteArray) (i : Nat) (hi : i < s.size) : PCall Tryz.prog 80 [vStr s, vInt i] (vInt (wid s i)) := by
  refine PCall.bd Tryz.func80 rfl (by decide) rfl rfl (fun hbd => ?_)
  have hs : s.size ≤ 4611686018427387904 := D.Bd.str (hbd 0 (by simp))
  generalize hc : bt s i = c
  rw [wid_eq hc]
  refine PCall.of_fx TTok mixed Tryz.func80 rfl (by decide) rfl rfl ?_
  conv => whnf
  refine idxB rfl hi ?_
  rw [hc]
  conv => whnf
  have hw : IntKind.i64.wrap ((i : Int) + 1) = (i + 1 : Nat) := by rw [wrap_id (by omega) (by omega)]; omega
  have ew : V.d (.lit (.int .i64 (IntKind.i64.wrap ((i : Int) + 1)))) = vInt (i + 1 : Nat) := by rw [hw]; rfl
  refine bsel_intro (fun h1 => ?_) (fun h1 => ?_)
  · have h1 : c < 128 := by have := dlt h1; omega
    conv => whnf
    exact retI TTok rfl (by simp [widc, h1])
  have h1 : ¬ c < 128 := by have := dge h1; omega
  conv => whnf
  by_cases c1 : 194 ≤ c ∧ c ≤ 223
  · repeat (first | (refine bsel_true (by first | (simp; done) | (simp [ofNat_cast] at *; omega)) ?_; conv => whnf) | (refine bsel_false (by first | (simp; done) | (simp [ofNat_cast] at *; omega)) ?_; conv => whnf))
    refine (trail_ok s (i + 1) 1 128 191 128 191 rfl rfl (by omega) (by omega) (by omega)).use (.cons (.refl _) (.cons (.of_eq ew) (.refl _))) ?_
    conv => whnf
    refine bsel_intro (fun ht => ?_) (fun ht => ?_)
    · conv => whnf
      exact retI TTok rfl (by simp [widc, h1, c1, ht])
    · conv => whnf
      repeat (first | (refine bsel_true (by first | (simp; done) | (simp [ofNat_cast] at *; omega)) ?_; conv => whnf) | (refine bsel_false (by first | (simp; done) | (simp [ofNat_cast] at *; omega)) ?_; conv => whnf))
      exact retI TTok rfl (by rw [widc, if_neg h1, if_neg (by simp [ht]), if_neg (by omega), if_neg (by omega)]; rfl)
  by_cases c2 : 224 ≤ c ∧ c ≤ 239
  · by_cases e1 : c = 224
    · skip
      repeat (first | (refine bsel_true (by first | (simp; done) | (simp [ofNat_cast] at *; omega)) ?_; conv => whnf) | (refine bsel_false (by first | (simp; done) | (simp [ofNat_cast] at *; omega)) ?_; conv => whnf))
      refine (trail_ok s (i + 1) 2 160 191 (lowOf c) (highOf c) (by simp [lowOf, e1]) (by simp [highOf, e1]) (by omega) (by omega) (by omega)).use (.cons (.refl _) (.cons (.of_eq ew) (.refl _))) ?_
      conv => whnf
      refine bsel_intro (fun ht => ?_) (fun ht => ?_)
      · conv => whnf
        repeat (first | (refine bsel_true (by first | (simp; done) | (simp [ofNat_cast] at *; omega)) ?_; conv => whnf) | (refine bsel_false (by first | (simp; done) | (simp [ofNat_cast] at *; omega)) ?_; conv => whnf))
        exact retI TTok rfl (by rw [widc3 c2, if_pos ht]; rfl)
      · conv => whnf
        repeat (first | (refine bsel_true (by first | (simp; done) | (simp [ofNat_cast] at *; omega)) ?_; conv => whnf) | (refine bsel_false (by first | (simp; done) | (simp [ofNat_cast] at *; omega)) ?_; conv => whnf))
        exact retI TTok rfl (by rw [widc3 c2, if_neg (by simp [ht])]; rfl)
    by_cases e2 : c = 237
    · skip
      repeat (first | (refine bsel_true (by first | (simp; done) | (simp [ofNat_cast] at *; omega)) ?_; conv => whnf) | (refine bsel_false (by first | (simp; done) | (simp [ofNat_cast] at *; omega)) ?_; conv => whnf))
      refine (trail_ok s (i + 1) 2 128 159 (lowOf c) (highOf c) (by simp [lowOf, e2]) (by simp [highOf, e2]) (by omega) (by omega) (by omega)).use (.cons (.refl _) (.cons (.of_eq ew) (.refl _))) ?_
      conv => whnf
      refine bsel_intro (fun ht => ?_) (fun ht => ?_)
      · conv => whnf
        repeat (first | (refine bsel_true (by first | (simp; done) | (simp [ofNat_cast] at *; omega)) ?_; conv => whnf) | (refine bsel_false (by first | (simp; done) | (simp [ofNat_cast] at *; omega)) ?_; conv => whnf))
        exact retI TTok rfl (by rw [widc3 c2, if_pos ht]; rfl)
      · conv => whnf
        repeat (first | (refine bsel_true (by first | (simp; done) | (simp [ofNat_cast] at *; omega)) ?_; conv => whnf) | (refine bsel_false (by first | (simp; done) | (simp [ofNat_cast] at *; omega)) ?_; conv => whnf))
        exact retI TTok rfl (by rw [widc3 c2, if_neg (by simp [ht])]; rfl)
    have e3 : lowOf c = 128 := by unfold lowOf; rw [if_neg (by omega), if_neg e1]
    have e4 : highOf c = 191 := by unfold highOf; rw [if_neg (by omega), if_neg e2]
    repeat (first | (refine bsel_true (by first | (simp; done) | (simp [ofNat_cast] at *; omega)) ?_; conv => whnf) | (refine bsel_false (by first | (simp; done) | (simp [ofNat_cast] at *; omega)) ?_; conv => whnf))
    refine (trail_ok s (i + 1) 2 128 191 (lowOf c) (highOf c) (by simp [e3]) (by simp [e4]) (by omega) (by omega) (by omega)).use (.cons (.refl _) (.cons (.of_eq ew) (.refl _))) ?_
    conv => whnf
    refine bsel_intro (fun ht => ?_) (fun ht => ?_)
    · conv => whnf
      repeat (first | (refine bsel_true (by first | (simp; done) | (simp [ofNat_cast] at *; omega)) ?_; conv => whnf) | (refine bsel_false (by first | (simp; done) | (simp [ofNat_cast] at *; omega)) ?_; conv => whnf))
      exact retI TTok rfl (by rw [widc3 c2, if_pos ht]; rfl)
    · conv => whnf
      repeat (first | (refine bsel_true (by first | (simp; done) | (simp [ofNat_cast] at *; omega)) ?_; conv => whnf) | (refine bsel_false (by first | (simp; done) | (simp [ofNat_cast] at *; omega)) ?_; conv => whnf))
      exact retI TTok rfl (by rw [widc3 c2, if_neg (by simp [ht])]; rfl)
  by_cases c3 : 240 ≤ c ∧ c ≤ 244
  · by_cases e1 : c = 240
    · skip
      repeat (first | (refine bsel_true (by first | (simp; done) | (simp [ofNat_cast] at *; omega)) ?_; conv => whnf) | (refine bsel_false (by first | (simp; done) | (simp [ofNat_cast] at *; omega)) ?_; conv => whnf))
      refine (trail_ok s (i + 1) 3 144 191 (lowOf c) (highOf c) (by simp [lowOf, e1]) (by simp [highOf, e1]) (by omega) (by omega) (by omega)).use (.cons (.refl _) (.cons (.of_eq ew) (.refl _))) ?_
      conv => whnf
      refine bsel_intro (fun ht => ?_) (fun ht => ?_)
      · conv => whnf
        repeat (first | (refine bsel_true (by first | (simp; done) | (simp [ofNat_cast] at *; omega)) ?_; conv => whnf) | (refine bsel_false (by first | (simp; done) | (simp [ofNat_cast] at *; omega)) ?_; conv => whnf))
        exact retI TTok rfl (by rw [widc4 c3, if_pos ht]; rfl)
      · conv => whnf
        repeat (first | (refine bsel_true (by first | (simp; done) | (simp [ofNat_cast] at *; omega)) ?_; conv => whnf) | (refine bsel_false (by first | (simp; done) | (simp [ofNat_cast] at *; omega)) ?_; conv => whnf))
        exact retI TTok rfl (by rw [widc4 c3, if_neg (by simp [ht])]; rfl)
    by_cases e2 : c = 244
    · skip
      repeat (first | (refine bsel_true (by first | (simp; done) | (simp [ofNat_cast] at *; omega)) ?_; conv => whnf) | (refine bsel_false (by first | (simp; done) | (simp [ofNat_cast] at *; omega)) ?_; conv => whnf))
      refine (trail_ok s (i + 1) 3 128 143 (lowOf c) (highOf c) (by simp [lowOf, e2]) (by simp [highOf, e2]) (by omega) (by omega) (by omega)).use (.cons (.refl _) (.cons (.of_eq ew) (.refl _))) ?_
      conv => whnf
      refine bsel_intro (fun ht => ?_) (fun ht => ?_)
      · conv => whnf
        repeat (first | (refine bsel_true (by first | (simp; done) | (simp [ofNat_cast] at *; omega)) ?_; conv => whnf) | (refine bsel_false (by first | (simp; done) | (simp [ofNat_cast] at *; omega)) ?_; conv => whnf))
        exact retI TTok rfl (by rw [widc4 c3, if_pos ht]; rfl)
      · conv => whnf
        repeat (first | (refine bsel_true (by first | (simp; done) | (simp [ofNat_cast] at *; omega)) ?_; conv => whnf) | (refine bsel_false (by first | (simp; done) | (simp [ofNat_cast] at *; omega)) ?_; conv => whnf))
        exact retI TTok rfl (by rw [widc4 c3, if_neg (by simp [ht])]; rfl)
    have e3 : lowOf c = 128 := by unfold lowOf; rw [if_neg e1, if_neg (by omega)]
    have e4 : highOf c = 191 := by unfold highOf; rw [if_neg e2, if_neg (by omega)]
    repeat (first | (refine bsel_true (by first | (simp; done) | (simp [ofNat_cast] at *; omega)) ?_; conv => whnf) | (refine bsel_false (by first | (simp; done) | (simp [ofNat_cast] at *; omega)) ?_; conv => whnf))
    refine (trail_ok s (i + 1) 3 128 191 (lowOf c) (highOf c) (by simp [e3]) (by simp [e4]) (by omega) (by omega) (by omega)).use (.cons (.refl _) (.cons (.of_eq ew) (.refl _))) ?_
    conv => whnf
    refine bsel_intro (fun ht => ?_) (fun ht => ?_)
    · conv => whnf
      repeat (first | (refine bsel_true (by first | (simp; done) | (simp [ofNat_cast] at *; omega)) ?_; conv => whnf) | (refine bsel_false (by first | (simp; done) | (simp [ofNat_cast] at *; omega)) ?_; conv => whnf))
      exact retI TTok rfl (by rw [widc4 c3, if_pos ht]; rfl)
    · conv => whnf
      repeat (first | (refine bsel_true (by first | (simp; done) | (simp [ofNat_cast] at *; omega)) ?_; conv => whnf) | (refine bsel_false (by first | (simp; done) | (simp [ofNat_cast] at *; omega)) ?_; conv => whnf))
      exact retI TTok rfl (by rw [widc4 c3, if_neg (by simp [ht])]; rfl)
  by_cases c4 : c < 194
  · repeat (first | (refine bsel_true (by first | (simp; done) | (simp [ofNat_cast] at *; omega)) ?_; conv => whnf) | (refine bsel_false (by first | (simp; done) | (simp [ofNat_cast] at *; omega)) ?_; conv => whnf))
    exact retI TTok rfl (by rw [widc0 (by omega)]; rfl)
  · repeat (first | (refine bsel_true (by first | (simp; done) | (simp [ofNat_cast] at *; omega)) ?_; conv => whnf) | (refine bsel_false (by first | (simp; done) | (simp [ofNat_cast] at *; omega)) ?_; conv => whnf))
    exact retI TTok rfl (by rw [widc0 (by omega)]; rfl)
end Go.Ab
set_option linter.unusedVariables false
set_option linter.unusedSimpArgs false
set_option maxRecDepth 4000
namespace Go.Ab
open Go.Proofs

theorem utf_ok (s : ByteArray) : PCall Tryz.prog 38 [vStr s] (vBool (tt (Utf s))) := by
  refine PCall.bd Tryz.func38 rfl (by decide) rfl rfl (fun hbd => ?_)
  have hs : s.size ≤ 4611686018427387904 := D.Bd.str (hbd 0 (by simp))
  refine PCall.of_fx TTok mixed Tryz.func38 rfl (by decide) rfl rfl ?_
  conv => whnf
  refine ⟨SExec.loop_i (fun k : Nat => ⟨17, [(3, vInt k), (0, vStr s)], []⟩) (fun k => k ≤ s.size + 4 ∧ (UtfFrom s k ↔ Utf s)) (fun k => s.size + 4 - k) 0 ⟨by omega, Iff.rfl⟩
    (fun k => Nat.le_refl _) (St.subD_of rfl [] rfl rfl (.cons (.refl _) rfl (.cons (.refl _) rfl .nil))) ?_⟩
  intro k ⟨hk, hI⟩
  refine fx_sound TTok mixed ?_
  conv => whnf
  refine bsel_intro (fun hlt => ?_) (fun hlt => ?_)
  · have hlt := dec_lt hlt
    conv => whnf
    refine (width_ok s k hlt).use (.refl _) ?_
    conv => whnf
    have hw4 := wid_le s k
    refine bsel_intro (fun h0 => ?_) (fun h0 => ?_)
    · conv => whnf
      have h0 : wid s k = 0 := by simpa using h0
      exact retB TTok rfl (tt_f fun t => utf_bad hlt h0 (hI.2 t))
    · have h0 : wid s k ≠ 0 := by simpa using h0
      conv => whnf
      exact ⟨k + wid s k, ⟨by omega, (utf_step hlt (by omega)).trans hI⟩, by omega, St.subD_of rfl _ rfl rfl (.cons (.of_eq (vInt_wrap (by omega) (by omega) (by omega))) rfl (.cons (.refl _) rfl .nil))⟩
  · have hge := dec_ge hlt
    conv => whnf
    exact retB TTok rfl (tt_t (hI.1 (.done hge)))

theorem rise_ok (l : List ByteArray) : PCall Tryz.prog 39 [vStrs l] (vBool (tt (Rise l))) := by
  refine PCall.bd Tryz.func39 rfl (by decide) rfl rfl (fun hbd => ?_)
  have hl : l.length ≤ 140737488355328 := bd_map (hbd 0 (by simp))
  refine PCall.of_fx TTok mixed Tryz.func39 rfl (by decide) rfl rfl ?_
  conv => whnf
  refine ⟨SExec.loop_p l.length (fun k => ∀ j (h : j < l.length), j < k → Utf l[j] ∧ ∀ h0 : 0 < j, strLt l[j - 1] l[j] = true) (fun k => ⟨30, [(3, vInt k), (0, vStrs l)], []⟩) (fun j _ h => absurd h (Nat.not_lt_zero _))
    (fun k => Nat.le_refl _) (St.subD_of rfl [] rfl rfl (.cons (.refl _) rfl (.cons (.refl _) rfl .nil))) ?_⟩
  intro k hk hI
  refine fx_sound TTok mixed ?_
  conv => whnf
  refine bsel_intro (fun hlt => ?_) (fun hlt => ?_)
  · have hlt : k < l.length := by simpa using hlt
    conv => whnf
    refine idxStr hlt rfl ?_
    conv => whnf
    refine (utf_ok _).use (.refl _) ?_
    conv => whnf
    refine bsel_intro (fun hu => ?_) (fun hu => ?_)
    · have hu := tt_not.1 (by simpa using hu)
      conv => whnf
      exact retB TTok rfl (tt_f fun t => hu (t.utf _ (List.getElem_mem hlt)))
    have hu := tt_iff.1 (by simpa using hu)
    conv => whnf
    (refine ⟨by decide +kernel, ?_⟩; conv => whnf)
    refine bsel_intro (fun h0 => ?_) (fun h0 => ?_)
    · have h0 : 0 < k := by simpa using h0
      conv => whnf
      have ek : IntKind.i64.wrap ((k : Int) - 1) = ((k - 1 : Nat) : Int) := by rw [wrap_id (by omega) (by omega)]; omega
      rw [ek]
      refine idxStr (by omega) rfl ?_
      conv => whnf
      refine idxStr hlt rfl ?_
      conv => whnf
      refine bsel_intro (fun hc => ?_) (fun hc => ?_)
      · have hc : strLt l[k - 1] l[k] = false := by simpa using hc
        conv => whnf
        exact retB TTok rfl (tt_f fun t => by
          have := t.up (k - 1) (by omega)
          have e : k - 1 + 1 = k := by omega
          simp only [e] at this
          rw [hc] at this; cases this)
      · have hc : strLt l[k - 1] l[k] = true := by simpa using hc
        conv => whnf
        refine ⟨⟨hlt, fun j hj hjk => ?_⟩, St.subD_of rfl _ rfl rfl (.cons (.of_eq (vInt_succ k (by omega))) rfl (.cons (.refl _) rfl .nil))⟩
        by_cases e : j = k
        · subst e; exact ⟨hu, fun _ => hc⟩
        · exact hI j hj (by omega)
    · have h0 : k = 0 := by simpa using h0
      conv => whnf
      refine ⟨⟨hlt, fun j hj hjk => ?_⟩, St.subD_of rfl _ rfl rfl (.cons (.of_eq (vInt_succ k (by omega))) rfl (.cons (.refl _) rfl .nil))⟩
      by_cases e : j = k
      · subst e; exact ⟨hu, fun h => by omega⟩
      · exact hI j hj (by omega)
  · have hge : l.length ≤ k := by simpa using hlt
    conv => whnf
    refine retB TTok rfl (tt_t ⟨fun s hs => ?_, fun i h => ?_⟩)
    · obtain ⟨j, hj, rfl⟩ := List.mem_iff_getElem.1 hs
      exact (hI j hj (by omega)).1
    · exact (hI (i + 1) h (by omega)).2 (by omega)
end Go.Ab
set_option linter.unusedVariables false
set_option linter.unusedSimpArgs false
set_option maxRecDepth 4000
namespace Go.Ab
open Go.Proofs

theorem number_ok (s : ByteArray) : PCall Tryz.prog 37 [vStr s] (vBool (tt (NumOk s))) := by
  refine PCall.bd Tryz.func37 rfl (by decide) rfl rfl (fun hbd => ?_)
  have hs : s.size ≤ 4611686018427387904 := D.Bd.str (hbd 0 (by simp))
  refine PCall.of_fx TTok mixed Tryz.func37 rfl (by decide) rfl rfl ?_
  conv => whnf
  have hdl := digits_le s
  refine bsel_intro (fun h0 => ?_) (fun h0 => ?_)
  · have h0 : 0 < s.size := by simpa using h0
    conv => whnf
    refine idxB rfl h0 ?_
    conv => whnf
    refine bsel_intro (fun h1 => ?_) (fun h1 => ?_)
    · have h1 : bt s 0 = 45 := eqN h1
      have ed : digits s = s.extract 1 s.size := if_pos ⟨h0, h1⟩
      conv => whnf
      refine chk_intro (by simp; omega) ?_
      conv => whnf
      refine ⟨SExec.loop_p (digits s).size (fun k => ∀ j, j < k → IsDig (bt (digits s) j)) (fun k => ⟨44, [(4, vInt k), (3, vStr (digits s)), (0, vStr s)], []⟩) upto_zero
        (fun k => Nat.le_refl _) (St.subD_of rfl [] rfl rfl (.cons (.refl _) rfl (.cons (.of_eq (by rw [ed]; rfl)) rfl (.cons (.refl _) rfl .nil)))) ?_⟩
      clear ed
      intro k hk hI
      refine fx_sound TTok mixed ?_
      conv => whnf
      refine bsel_intro (fun hlt => ?_) (fun hlt => ?_)
      · have hlt : k < (digits s).size := ltN hlt
        conv => whnf
        refine idxB rfl hlt ?_
        conv => whnf
        refine bsel_intro (fun h1 => ?_) (fun h1 => ?_)
        · have h1 := geN (k := 48) (beqF h1)
          conv => whnf
          refine idxB rfl hlt ?_
          conv => whnf
          refine bsel_intro (fun h2 => ?_) (fun h2 => ?_)
          · have h2 := ltN (n := 57) h2
            conv => whnf
            exact retB TTok rfl (tt_f fun t => by have := (t.digs k hlt).2; omega)
          · have h2 := geN (n := 57) h2
            conv => whnf
            exact ⟨⟨hlt, upto_succ hI ⟨h1, h2⟩⟩, St.subD_of rfl _ rfl rfl (.cons (.of_eq (vInt_succ k (by omega))) rfl (.cons (.refl _) rfl (.cons (.refl _) rfl .nil)))⟩
        · have h1 := ltN (k := 48) (beqF h1)
          conv => whnf
          exact retB TTok rfl (tt_f fun t => by have := (t.digs k hlt).1; omega)
      · have hge : (digits s).size ≤ k := geN hlt
        obtain rfl : k = (digits s).size := by omega
        conv => whnf
        refine bsel_intro (fun h3 => ?_) (fun h3 => ?_)
        · have h3 : (digits s).size ≠ 0 := neN (beqF h3)
          conv => whnf
          refine idxB (k := 0) rfl (by omega) ?_
          conv => whnf
          refine bsel_intro (fun h4 => ?_) (fun h4 => ?_)
          · have h4 : bt (digits s) 0 = 48 := eqN (beqT h4)
            conv => whnf
            refine bsel_intro (fun h5 => ?_) (fun h5 => ?_)
            · have h5 : s ≠ zeroS := strEq_not.1 (by simpa [zeroS] using h5)
              conv => whnf
              exact retB TTok rfl (tt_f fun t => h5 (t.zero h4))
            · have h5 : s = zeroS := strEq_iff.1 (by simpa [zeroS] using h5)
              conv => whnf
              exact retB TTok rfl (tt_t ⟨hI, by omega, fun _ => h5⟩)
          · have h4 : bt (digits s) 0 ≠ 48 := neN (beqT h4)
            conv => whnf
            exact retB TTok rfl (tt_t ⟨hI, by omega, fun h => absurd h h4⟩)
        · have h3 : (digits s).size = 0 := eqN (beqF h3)
          conv => whnf
          exact retB TTok rfl (tt_f fun t => by have := t.some; omega)
    · have h1 : bt s 0 ≠ 45 := neN h1
      have ed : digits s = s := if_neg (fun k => h1 k.2)
      conv => whnf
      refine ⟨SExec.loop_p (digits s).size (fun k => ∀ j, j < k → IsDig (bt (digits s) j)) (fun k => ⟨44, [(4, vInt k), (3, vStr (digits s)), (0, vStr s)], []⟩) upto_zero
        (fun k => Nat.le_refl _) (St.subD_of rfl [] rfl rfl (.cons (.refl _) rfl (.cons (.of_eq (by rw [ed]; rfl)) rfl (.cons (.refl _) rfl .nil)))) ?_⟩
      clear ed
      intro k hk hI
      refine fx_sound TTok mixed ?_
      conv => whnf
      refine bsel_intro (fun hlt => ?_) (fun hlt => ?_)
      · have hlt : k < (digits s).size := ltN hlt
        conv => whnf
        refine idxB rfl hlt ?_
        conv => whnf
        refine bsel_intro (fun h1 => ?_) (fun h1 => ?_)
        · have h1 := geN (k := 48) (beqF h1)
          conv => whnf
          refine idxB rfl hlt ?_
          conv => whnf
          refine bsel_intro (fun h2 => ?_) (fun h2 => ?_)
          · have h2 := ltN (n := 57) h2
            conv => whnf
            exact retB TTok rfl (tt_f fun t => by have := (t.digs k hlt).2; omega)
          · have h2 := geN (n := 57) h2
            conv => whnf
            exact ⟨⟨hlt, upto_succ hI ⟨h1, h2⟩⟩, St.subD_of rfl _ rfl rfl (.cons (.of_eq (vInt_succ k (by omega))) rfl (.cons (.refl _) rfl (.cons (.refl _) rfl .nil)))⟩
        · have h1 := ltN (k := 48) (beqF h1)
          conv => whnf
          exact retB TTok rfl (tt_f fun t => by have := (t.digs k hlt).1; omega)
      · have hge : (digits s).size ≤ k := geN hlt
        obtain rfl : k = (digits s).size := by omega
        conv => whnf
        refine bsel_intro (fun h3 => ?_) (fun h3 => ?_)
        · have h3 : (digits s).size ≠ 0 := neN (beqF h3)
          conv => whnf
          refine idxB (k := 0) rfl (by omega) ?_
          conv => whnf
          refine bsel_intro (fun h4 => ?_) (fun h4 => ?_)
          · have h4 : bt (digits s) 0 = 48 := eqN (beqT h4)
            conv => whnf
            refine bsel_intro (fun h5 => ?_) (fun h5 => ?_)
            · have h5 : s ≠ zeroS := strEq_not.1 (by simpa [zeroS] using h5)
              conv => whnf
              exact retB TTok rfl (tt_f fun t => h5 (t.zero h4))
            · have h5 : s = zeroS := strEq_iff.1 (by simpa [zeroS] using h5)
              conv => whnf
              exact retB TTok rfl (tt_t ⟨hI, by omega, fun _ => h5⟩)
          · have h4 : bt (digits s) 0 ≠ 48 := neN (beqT h4)
            conv => whnf
            exact retB TTok rfl (tt_t ⟨hI, by omega, fun h => absurd h h4⟩)
        · have h3 : (digits s).size = 0 := eqN (beqF h3)
          conv => whnf
          exact retB TTok rfl (tt_f fun t => by have := t.some; omega)
  · have h0 : s.size = 0 := by simpa using h0
    have ed : digits s = s := if_neg (fun k => by omega)
    conv => whnf
    refine ⟨SExec.loop_p (digits s).size (fun k => ∀ j, j < k → IsDig (bt (digits s) j)) (fun k => ⟨44, [(4, vInt k), (3, vStr (digits s)), (0, vStr s)], []⟩) upto_zero
      (fun k => Nat.le_refl _) (St.subD_of rfl [] rfl rfl (.cons (.refl _) rfl (.cons (.of_eq (by rw [ed]; rfl)) rfl (.cons (.refl _) rfl .nil)))) ?_⟩
    clear ed
    intro k hk hI
    refine fx_sound TTok mixed ?_
    conv => whnf
    refine bsel_intro (fun hlt => ?_) (fun hlt => ?_)
    · have hlt : k < (digits s).size := ltN hlt
      conv => whnf
      refine idxB rfl hlt ?_
      conv => whnf
      refine bsel_intro (fun h1 => ?_) (fun h1 => ?_)
      · have h1 := geN (k := 48) (beqF h1)
        conv => whnf
        refine idxB rfl hlt ?_
        conv => whnf
        refine bsel_intro (fun h2 => ?_) (fun h2 => ?_)
        · have h2 := ltN (n := 57) h2
          conv => whnf
          exact retB TTok rfl (tt_f fun t => by have := (t.digs k hlt).2; omega)
        · have h2 := geN (n := 57) h2
          conv => whnf
          exact ⟨⟨hlt, upto_succ hI ⟨h1, h2⟩⟩, St.subD_of rfl _ rfl rfl (.cons (.of_eq (vInt_succ k (by omega))) rfl (.cons (.refl _) rfl (.cons (.refl _) rfl .nil)))⟩
      · have h1 := ltN (k := 48) (beqF h1)
        conv => whnf
        exact retB TTok rfl (tt_f fun t => by have := (t.digs k hlt).1; omega)
    · have hge : (digits s).size ≤ k := geN hlt
      obtain rfl : k = (digits s).size := by omega
      conv => whnf
      refine bsel_intro (fun h3 => ?_) (fun h3 => ?_)
      · have h3 : (digits s).size ≠ 0 := neN (beqF h3)
        conv => whnf
        refine idxB (k := 0) rfl (by omega) ?_
        conv => whnf
        refine bsel_intro (fun h4 => ?_) (fun h4 => ?_)
        · have h4 : bt (digits s) 0 = 48 := eqN (beqT h4)
          conv => whnf
          refine bsel_intro (fun h5 => ?_) (fun h5 => ?_)
          · have h5 : s ≠ zeroS := strEq_not.1 (by simpa [zeroS] using h5)
            conv => whnf
            exact retB TTok rfl (tt_f fun t => h5 (t.zero h4))
          · have h5 : s = zeroS := strEq_iff.1 (by simpa [zeroS] using h5)
            conv => whnf
            exact retB TTok rfl (tt_t ⟨hI, by omega, fun _ => h5⟩)
        · have h4 : bt (digits s) 0 ≠ 48 := neN (beqT h4)
          conv => whnf
          exact retB TTok rfl (tt_t ⟨hI, by omega, fun h => absurd h h4⟩)
      · have h3 : (digits s).size = 0 := eqN (beqF h3)
        conv => whnf
        exact retB TTok rfl (tt_f fun t => by have := t.some; omega)
end Go.Ab
set_option linter.unusedVariables false
set_option linter.unusedSimpArgs false
set_option maxRecDepth 4000
namespace Go.Ab
open Go.Proofs

theorem numbers_pos (a b : ByteArray) (ha : 0 < a.size) (hb : 0 < b.size) (ma : bt a 0 ≠ 45) (mb : bt b 0 ≠ 45) : PCall Tryz.prog 58 [vStr a, vStr b] (vInt (numPos a b)) := by
  refine PCall.of_fx TTok mixed Tryz.func58 rfl (by decide) rfl rfl ?_
  conv => whnf
  refine idxB (k := 0) rfl ha ?_
  conv => whnf
  refine idxB (k := 0) rfl hb ?_
  conv => whnf
  refine bsel_false (by simp [ofNat_cast]; omega) ?_
  conv => whnf
  refine bsel_false (by simp [ofNat_cast]; omega) ?_
  conv => whnf
  refine bsel_false (by simp [ofNat_cast]; omega) ?_
  conv => whnf
  refine bsel_intro (fun h1 => ?_) (fun h1 => ?_)
  · have h1 : a.size ≠ b.size := by simp only [beq_true, beq_false, Bool.not_eq_eq_eq_not, Bool.not_true, Bool.not_false, bne_iff_ne, beq_iff_eq, decide_eq_true_eq, decide_eq_false_iff_not, beq_eq_false_iff_ne, bne_eq_false_iff_eq, ofNat_cast, ne_eq] at h1; omega
    conv => whnf
    refine bsel_intro (fun h2 => ?_) (fun h2 => ?_)
    · have h2 := ltN h2
      conv => whnf
      exact retI TTok rfl (by simp [numPos, h1, h2])
    · have h2 := geN h2
      conv => whnf
      exact retI TTok rfl (by rw [numPos, if_neg h1, if_neg (by omega)])
  · have h1 : a.size = b.size := by simp only [beq_true, beq_false, Bool.not_eq_eq_eq_not, Bool.not_true, Bool.not_false, bne_iff_ne, beq_iff_eq, decide_eq_true_eq, decide_eq_false_iff_not, beq_eq_false_iff_ne, bne_eq_false_iff_eq, ofNat_cast, ne_eq] at h1; omega
    conv => whnf
    refine (texts_ok a b).use (.refl _) ?_
    conv => whnf
    exact retI TTok rfl (by simp [numPos, h1])

theorem numbers_ok (a b : ByteArray) (ha : NumOk a) (hb : NumOk b) : PCall Tryz.prog 58 [vStr a, vStr b] (vInt (numCmp a b)) := by
  by_cases ma : bt a 0 = 45
  · by_cases mb : bt b 0 = 45
    · have ta := ha.tail ma
      have tb := hb.tail mb
      refine PCall.of_fx TTok mixed Tryz.func58 rfl (by decide) rfl rfl ?_
      conv => whnf
      refine idxB (k := 0) rfl ha.pos ?_
      conv => whnf
      refine idxB (k := 0) rfl hb.pos ?_
      conv => whnf
      refine bsel_true (by simp [ofNat_cast]; omega) ?_
      conv => whnf
      refine bsel_false (by simp [ofNat_cast]; omega) ?_
      conv => whnf
      refine bsel_true (by simp [ofNat_cast]; omega) ?_
      conv => whnf
      refine bsel_false (by simp [ofNat_cast]; omega) ?_
      conv => whnf
      refine bsel_true (by simp [ofNat_cast]; omega) ?_
      conv => whnf
      (refine ⟨by decide +kernel, ?_⟩; conv => whnf)
      refine chk_intro (by have := hb.pos; first | (simp; done) | (simp [ofNat_cast] at *; omega)) ?_
      conv => whnf
      refine chk_intro (by have := ha.pos; first | (simp; done) | (simp [ofNat_cast] at *; omega)) ?_
      conv => whnf
      refine (numbers_pos (tail1 b) (tail1 a) tb.1 ta.1 tb.2 ta.2).useQ (.refl _) ?_
      conv => whnf
      exact retI TTok rfl (by simp [numCmp, ma, mb])
    · refine PCall.of_fx TTok mixed Tryz.func58 rfl (by decide) rfl rfl ?_
      conv => whnf
      refine idxB (k := 0) rfl ha.pos ?_
      conv => whnf
      refine idxB (k := 0) rfl hb.pos ?_
      conv => whnf
      refine bsel_true (by simp [ofNat_cast]; omega) ?_
      conv => whnf
      refine bsel_true (by simp [ofNat_cast]; omega) ?_
      conv => whnf
      exact retI TTok rfl (by simp [numCmp, ma, mb])
  · by_cases mb : bt b 0 = 45
    · refine PCall.of_fx TTok mixed Tryz.func58 rfl (by decide) rfl rfl ?_
      conv => whnf
      refine idxB (k := 0) rfl ha.pos ?_
      conv => whnf
      refine idxB (k := 0) rfl hb.pos ?_
      conv => whnf
      refine bsel_false (by simp [ofNat_cast]; omega) ?_
      conv => whnf
      refine bsel_true (by simp [ofNat_cast]; omega) ?_
      conv => whnf
      refine bsel_true (by simp [ofNat_cast]; omega) ?_
      conv => whnf
      exact retI TTok rfl (by simp [numCmp, ma, mb])
    · exact (numbers_pos a b ha.pos hb.pos ma mb).eq rfl (by simp [numCmp, ma, mb])

theorem bound_ok (s : ByteArray) : PCall Tryz.prog 87 [vStr s] (vBool (tt (BoundOk s))) := by
  refine PCall.of_fx TTok mixed Tryz.func87 rfl (by decide) rfl rfl ?_
  conv => whnf
  refine bsel_intro (fun h => ?_) (fun h => ?_)
  · have h : s ≠ ⟨#[]⟩ := strEq_not.1 (by simpa using h)
    conv => whnf
    refine (number_ok s).use (.refl _) ?_
    conv => whnf
    exact retB TTok rfl (tt_congr ⟨.inr, fun k => k.resolve_left h⟩)
  · have h : s = ⟨#[]⟩ := strEq_iff.1 (by simpa using h)
    conv => whnf
    exact retB TTok rfl (tt_t (.inl h))
end Go.Ab
set_option linter.unusedVariables false
set_option linter.unusedSimpArgs false
set_option maxRecDepth 4000
namespace Go.Ab
open Go.Proofs

theorem bare_ok (t : Ty) : PCall Tryz.prog 53 [vTy t] (vBool (tt (Bare t))) := by
  refine PCall.of_fx TTok mixed Tryz.func53 rfl (by decide) rfl rfl ?_
  conv => whnf
  repeat' (refine bsel_intro (fun _ => ?_) (fun _ => ?_) <;> conv => whnf)
  all_goals exact retB TTok rfl (tt_eq (by rw [bare_iff]; simp_all [ofNat_cast]))
theorem never_ok (t : Ty) : PCall Tryz.prog 19 [vTy t] (vBool (tt (Never t))) := by
  refine PCall.of_fx TTok mixed Tryz.func19 rfl (by decide) rfl rfl ?_
  conv => whnf
  refine bsel_intro (fun h1 => ?_) (fun h1 => ?_)
  · have h1 : t.all = false := by simpa using h1
    conv => whnf
    refine (bare_ok t).use (.refl _) ?_
    conv => whnf
    exact retB TTok rfl (tt_congr ⟨fun h => ⟨h1, h⟩, fun h => h.bare⟩)
  · have h1 : t.all = true := by simpa using h1
    conv => whnf
    exact retB TTok rfl (tt_f fun h => by have := h.all; rw [h1] at this; cases this)
end Go.Ab
set_option linter.unusedVariables false
set_option linter.unusedSimpArgs false
set_option maxRecDepth 4000
namespace Go.Ab
open Go.Proofs

theorem spans_ok (l : List Sp) : PCall Tryz.prog 54 [vSps l] (vBool (tt (SpansOk l))) := by
  refine PCall.of_fx TTok mixed Tryz.func54 rfl (by decide) rfl rfl ?_
  conv => whnf
  refine bsel_intro (fun h1 => ?_) (fun h1 => ?_)
  · have h1 : 1 < l.length := by simp at h1; omega
    conv => whnf
    exact retB TTok rfl (tt_f fun t => by have := t.len; omega)
  have h1 : l.length ≤ 1 := by simp at h1; omega
  conv => whnf
  refine ⟨SExec.loop_p l.length (fun k => ∀ j (h : j < l.length), j < k → l[j].Ok) (fun k => ⟨57, [(3, vInt k), (0, vSps l)], []⟩) (fun j _ h => absurd h (Nat.not_lt_zero _))
    (fun k => Nat.le_refl _) (St.subD_of rfl [] rfl rfl (.cons (.refl _) rfl (.cons (.refl _) rfl .nil))) ?_⟩
  intro k hk hI
  refine fx_sound TTok mixed ?_
  conv => whnf
  refine bsel_intro (fun hlt => ?_) (fun hlt => ?_)
  · have hlt : k < l.length := by simpa using hlt
    conv => whnf
    refine idxSp hlt rfl ?_
    conv => whnf
    refine (bound_ok _).use (.refl _) ?_
    conv => whnf
    refine bsel_intro (fun h2 => ?_) (fun h2 => ?_)
    · have h2 := tt_iff.1 (by simpa using h2)
      conv => whnf
      refine idxSp hlt rfl ?_
      conv => whnf
      refine (bound_ok _).use (.refl _) ?_
      conv => whnf
      refine bsel_intro (fun h3 => ?_) (fun h3 => ?_)
      · have h3 := tt_not.1 (by simpa using h3)
        conv => whnf
        exact retB TTok rfl (tt_f fun t => h3 (t.ok _ (List.getElem_mem hlt)).high)
      have h3 := tt_iff.1 (by simpa using h3)
      conv => whnf
      (refine ⟨by decide +kernel, ?_⟩; conv => whnf)
      refine idxSp hlt rfl ?_
      conv => whnf
      refine bsel_intro (fun h4 => ?_) (fun h4 => ?_)
      · have h4 : l[k].low ≠ ⟨#[]⟩ := strEq_not.1 (by simpa using h4)
        conv => whnf
        refine idxSp hlt rfl ?_
        conv => whnf
        refine bsel_intro (fun h5 => ?_) (fun h5 => ?_)
        · have h5 : l[k].high ≠ ⟨#[]⟩ := strEq_not.1 (by simpa using h5)
          conv => whnf
          refine idxSp hlt rfl ?_
          conv => whnf
          refine idxSp hlt rfl ?_
          conv => whnf
          refine (numbers_ok l[k].low l[k].high (h2.resolve_left h4) (h3.resolve_left h5)).useQ (.refl _) ?_
          conv => whnf
          refine bsel_intro (fun h6 => ?_) (fun h6 => ?_)
          · have h6 : 0 < numCmp l[k].low l[k].high := by simpa using h6
            conv => whnf
            exact retB TTok rfl (tt_f fun t => by have := (t.ok _ (List.getElem_mem hlt)).order h4 h5; omega)
          · have h6 : numCmp l[k].low l[k].high ≤ 0 := by simpa using h6
            conv => whnf
            exact ⟨⟨hlt, fun j hj hjk => by
              by_cases e : j = k
              · subst e; exact ⟨h2, h3, fun _ _ => h6⟩
              · exact hI j hj (by omega)⟩, St.subD_of rfl _ rfl rfl (.cons (.of_eq (vInt_succ k (by omega))) rfl (.cons (.refl _) rfl .nil))⟩
        · have h5 : l[k].high = ⟨#[]⟩ := strEq_iff.1 (by simpa using h5)
          conv => whnf
          exact ⟨⟨hlt, fun j hj hjk => by
            by_cases e : j = k
            · subst e; exact ⟨h2, h3, fun _ k => absurd h5 k⟩
            · exact hI j hj (by omega)⟩, St.subD_of rfl _ rfl rfl (.cons (.of_eq (vInt_succ k (by omega))) rfl (.cons (.refl _) rfl .nil))⟩
      · have h4 : l[k].low = ⟨#[]⟩ := strEq_iff.1 (by simpa using h4)
        conv => whnf
        exact ⟨⟨hlt, fun j hj hjk => by
          by_cases e : j = k
          · subst e; exact ⟨h2, h3, fun k _ => absurd h4 k⟩
          · exact hI j hj (by omega)⟩, St.subD_of rfl _ rfl rfl (.cons (.of_eq (vInt_succ k (by omega))) rfl (.cons (.refl _) rfl .nil))⟩
    · have h2 := tt_not.1 (by simpa using h2)
      conv => whnf
      exact retB TTok rfl (tt_f fun t => h2 (t.ok _ (List.getElem_mem hlt)).low)
  · have hge : l.length ≤ k := by simpa using hlt
    conv => whnf
    refine retB TTok rfl (tt_t ⟨h1, fun s hs => ?_⟩)
    obtain ⟨j, hj, rfl⟩ := List.mem_iff_getElem.1 hs
    exact hI j hj (by omega)
end Go.Ab
