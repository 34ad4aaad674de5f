import Derived.Test.YtjggngbfmjneiaaDoorPC
import Derived.Lib.ValidLaws
import Derived.Lib.TrimUEq
set_option linter.unusedVariables false
set_option linter.unusedSimpArgs false
namespace Go.Ab
open Go.Lib
/-! ### The document's UTF-8 and the library's decoder -/
theorem bt_get! (s : ByteArray) (k : Nat) : (s.get! k).toNat = bt s k := by
  unfold bt
  cases s with
  | mk d =>
    show (d[k]!).toNat = ((d.toList).getD k 0).toNat
    rw [List.getD_eq_getElem?_getD, Array.getElem?_toList, Array.getElem!_eq_getD, Array.getD_eq_getD_getElem?]
    rfl
theorem trail1 {s : ByteArray} {i lo hi : Nat} : Trail s (i + 1) 1 lo hi ↔ i + 1 < s.size ∧ 128 ≤ bt s (i + 1) ∧ bt s (i + 1) ≤ 191 ∧ lo ≤ bt s (i + 1) ∧ bt s (i + 1) ≤ hi :=
  ⟨fun h => ⟨by have := h.fits; omega, (h.all 0 (by omega)).1, (h.all 0 (by omega)).2, h.first.1, h.first.2⟩, fun ⟨a, b, c, d, e⟩ => ⟨by omega, fun k hk => by
    obtain rfl : k = 0 := by omega
    exact ⟨b, c⟩, d, e⟩⟩
theorem trail2 {s : ByteArray} {i lo hi : Nat} : Trail s (i + 1) 2 lo hi ↔ i + 2 < s.size ∧ 128 ≤ bt s (i + 1) ∧ bt s (i + 1) ≤ 191 ∧ 128 ≤ bt s (i + 2) ∧ bt s (i + 2) ≤ 191 ∧ lo ≤ bt s (i + 1) ∧ bt s (i + 1) ≤ hi :=
  ⟨fun h => ⟨by have := h.fits; omega, (h.all 0 (by omega)).1, (h.all 0 (by omega)).2, (h.all 1 (by omega)).1, (h.all 1 (by omega)).2, h.first.1, h.first.2⟩, fun ⟨a, b, c, d, e, f, g⟩ => ⟨by omega, fun k hk => by
    rcases (show k = 0 ∨ k = 1 by omega) with rfl | rfl
    · exact ⟨b, c⟩
    · exact ⟨d, e⟩, f, g⟩⟩
theorem trail3 {s : ByteArray} {i lo hi : Nat} : Trail s (i + 1) 3 lo hi ↔ i + 3 < s.size ∧ 128 ≤ bt s (i + 1) ∧ bt s (i + 1) ≤ 191 ∧ 128 ≤ bt s (i + 2) ∧ bt s (i + 2) ≤ 191 ∧ 128 ≤ bt s (i + 3) ∧ bt s (i + 3) ≤ 191 ∧ lo ≤ bt s (i + 1) ∧ bt s (i + 1) ≤ hi :=
  ⟨fun h => ⟨by have := h.fits; omega, (h.all 0 (by omega)).1, (h.all 0 (by omega)).2, (h.all 1 (by omega)).1, (h.all 1 (by omega)).2, (h.all 2 (by omega)).1, (h.all 2 (by omega)).2, h.first.1, h.first.2⟩, fun ⟨a, b, c, d, e, b', c', f, g⟩ => ⟨by omega, fun k hk => by
    rcases (show k = 0 ∨ k = 1 ∨ k = 2 by omega) with rfl | rfl | rfl
    · exact ⟨b, c⟩
    · exact ⟨d, e⟩
    · exact ⟨b', c'⟩, f, g⟩⟩
/-- The decoder over numbers. -/
def dec4 (n c b1 b2 b3 : Nat) : Nat × Nat :=
  if c < 128 then (c, 1)
  else if c / 32 = 6 ∧ 1 < n ∧ b1 / 64 = 2 then (if (c % 32) * 64 + b1 % 64 ≥ 128 then ((c % 32) * 64 + b1 % 64, 2) else (65533, 1))
  else if c / 16 = 14 ∧ (1 < n ∧ b1 / 64 = 2) ∧ (2 < n ∧ b2 / 64 = 2) then
    (if (c % 16) * 4096 + (b1 % 64) * 64 + b2 % 64 ≥ 2048 ∧ ((c % 16) * 4096 + (b1 % 64) * 64 + b2 % 64 < 55296 ∨ (57344 ≤ (c % 16) * 4096 + (b1 % 64) * 64 + b2 % 64 ∧ (c % 16) * 4096 + (b1 % 64) * 64 + b2 % 64 ≤ 1114111)) then ((c % 16) * 4096 + (b1 % 64) * 64 + b2 % 64, 3) else (65533, 1))
  else if c / 8 = 30 ∧ (1 < n ∧ b1 / 64 = 2) ∧ (2 < n ∧ b2 / 64 = 2) ∧ (3 < n ∧ b3 / 64 = 2) then
    (if (c % 8) * 262144 + (b1 % 64) * 4096 + (b2 % 64) * 64 + b3 % 64 ≥ 65536 ∧ ((c % 8) * 262144 + (b1 % 64) * 4096 + (b2 % 64) * 64 + b3 % 64 < 55296 ∨ (57344 ≤ (c % 8) * 262144 + (b1 % 64) * 4096 + (b2 % 64) * 64 + b3 % 64 ∧ (c % 8) * 262144 + (b1 % 64) * 4096 + (b2 % 64) * 64 + b3 % 64 ≤ 1114111)) then ((c % 8) * 262144 + (b1 % 64) * 4096 + (b2 % 64) * 64 + b3 % 64, 4) else (65533, 1))
  else (65533, 1)
theorem valid_iff (n : Nat) : Utf8.valid (n : Int) = true ↔ (n < 55296 ∨ (57344 ≤ n ∧ n ≤ 1114111)) := by
  unfold Utf8.valid
  simp only [Bool.or_eq_true, Bool.and_eq_true, decide_eq_true_eq]
  omega
theorem decode_dec4 (s : ByteArray) (i : Nat) (hi : i < s.size) : Utf8.decode s i = dec4 (s.size - i) (bt s i) (bt s (i + 1)) (bt s (i + 2)) (bt s (i + 3)) := by
  have e1 : (i + 1 < s.size) ↔ 1 < s.size - i := by omega
  have e2 : (i + 2 < s.size) ↔ 2 < s.size - i := by omega
  have e3 : (i + 3 < s.size) ↔ 3 < s.size - i := by omega
  unfold Utf8.decode dec4
  simp only [bt_get!, Nat.add_zero, Bool.and_eq_true, beq_iff_eq, decide_eq_true_eq, valid_iff, Utf8.runeError, ge_iff_le, e1, e2, e3, and_assoc]
/-- What the two say of one place. -/
theorem wid_decode (s : ByteArray) (i : Nat) (hi : i < s.size) : (wid s i = 0 ∧ (Utf8.decode s i).1 = 65533 ∧ (Utf8.decode s i).2 = 1) ∨ (0 < wid s i ∧ (Utf8.decode s i).2 = wid s i ∧ ¬((Utf8.decode s i).1 = 65533 ∧ (Utf8.decode s i).2 = 1)) := by
  rw [decode_dec4 s i hi, wid_eq rfl]
  unfold widc
  simp only [tt_iff, trail1, trail2, trail3]
  have h0 := bt_lt s i
  have h1 := bt_lt s (i + 1)
  have h2 := bt_lt s (i + 2)
  have h3 := bt_lt s (i + 3)
  have e1 : (i + 1 < s.size) ↔ 1 < s.size - i := by omega
  have e2 : (i + 2 < s.size) ↔ 2 < s.size - i := by omega
  have e3 : (i + 3 < s.size) ↔ 3 < s.size - i := by omega
  simp only [e1, e2, e3]
  generalize bt s i = c at *
  generalize bt s (i + 1) = b1 at *
  generalize bt s (i + 2) = b2 at *
  generalize bt s (i + 3) = b3 at *
  have hn : 0 < s.size - i := by omega
  generalize s.size - i = n at *
  clear e1 e2 e3 hi
  unfold dec4 lowOf highOf
  by_cases c0 : c < 128
  · simp only [if_pos c0]
    refine .inr ⟨by decide, by simp, fun h => ?_⟩
    have := h.1
    omega
  simp only [if_neg c0]
  by_cases c1 : c < 192
  · rw [if_neg (by omega), if_neg (by omega), if_neg (by omega), if_neg (by omega), if_neg (by omega), if_neg (by omega)]; simp
  by_cases c2 : c < 224
  · by_cases hb : 1 < n ∧ b1 / 64 = 2
    · rw [if_pos (by omega : c / 32 = 6 ∧ 1 < n ∧ b1 / 64 = 2)]
      by_cases c3 : 194 ≤ c
      · rw [if_pos (by omega), if_pos (by omega)]; simp
      · rw [if_neg (by omega), if_neg (by omega), if_neg (by omega), if_neg (by omega)]; simp
    · rw [if_neg (by omega), if_neg (by omega), if_neg (by omega), if_neg (by omega), if_neg (by omega), if_neg (by omega)]; simp
  by_cases c4 : c < 240
  · by_cases hb : (1 < n ∧ b1 / 64 = 2) ∧ (2 < n ∧ b2 / 64 = 2)
    · rw [if_neg (by omega : ¬(c / 32 = 6 ∧ 1 < n ∧ b1 / 64 = 2)), if_pos (by omega : c / 16 = 14 ∧ (1 < n ∧ b1 / 64 = 2) ∧ (2 < n ∧ b2 / 64 = 2)), if_neg (by omega : ¬(194 ≤ c ∧ c ≤ 223 ∧ _))]
      by_cases hv : (c % 16) * 4096 + (b1 % 64) * 64 + b2 % 64 ≥ 2048 ∧ ((c % 16) * 4096 + (b1 % 64) * 64 + b2 % 64 < 55296 ∨ (57344 ≤ (c % 16) * 4096 + (b1 % 64) * 64 + b2 % 64 ∧ (c % 16) * 4096 + (b1 % 64) * 64 + b2 % 64 ≤ 1114111))
      · rw [if_pos hv, if_pos (by
          repeat' split
          all_goals omega)]
        simp
      · rw [if_neg hv, if_neg (by
          repeat' split
          all_goals omega), if_neg (by omega)]
        simp
    · rw [if_neg (by omega), if_neg (by omega), if_neg (by omega), if_neg (by omega), if_neg (by omega), if_neg (by omega)]; simp
  by_cases c5 : c < 248
  · by_cases hb : (1 < n ∧ b1 / 64 = 2) ∧ (2 < n ∧ b2 / 64 = 2) ∧ (3 < n ∧ b3 / 64 = 2)
    · rw [if_neg (by omega : ¬(c / 32 = 6 ∧ 1 < n ∧ b1 / 64 = 2)), if_neg (by omega : ¬(c / 16 = 14 ∧ (1 < n ∧ b1 / 64 = 2) ∧ (2 < n ∧ b2 / 64 = 2))), if_pos (by omega : c / 8 = 30 ∧ (1 < n ∧ b1 / 64 = 2) ∧ (2 < n ∧ b2 / 64 = 2) ∧ (3 < n ∧ b3 / 64 = 2)), if_neg (by omega : ¬(194 ≤ c ∧ c ≤ 223 ∧ _)), if_neg (by omega : ¬(224 ≤ c ∧ c ≤ 239 ∧ _))]
      by_cases hv : (c % 8) * 262144 + (b1 % 64) * 4096 + (b2 % 64) * 64 + b3 % 64 ≥ 65536 ∧ ((c % 8) * 262144 + (b1 % 64) * 4096 + (b2 % 64) * 64 + b3 % 64 < 55296 ∨ (57344 ≤ (c % 8) * 262144 + (b1 % 64) * 4096 + (b2 % 64) * 64 + b3 % 64 ∧ (c % 8) * 262144 + (b1 % 64) * 4096 + (b2 % 64) * 64 + b3 % 64 ≤ 1114111))
      · rw [if_pos hv, if_pos (by
          repeat' split
          all_goals omega)]
        simp
      · rw [if_neg hv, if_neg (by
          repeat' split
          all_goals omega)]
        simp
    · rw [if_neg (by omega), if_neg (by omega), if_neg (by omega), if_neg (by omega), if_neg (by omega), if_neg (by omega)]; simp
  · rw [if_neg (by omega), if_neg (by omega), if_neg (by omega), if_neg (by omega), if_neg (by omega), if_neg (by omega)]; simp
theorem utf_valid (s : ByteArray) : Lib.validD s.data.toList = tt (Utf s) := by
  have key : ∀ n i, s.size - i ≤ n → (Lib.validD (s.data.toList.drop i) = true ↔ UtfFrom s i) := by
    intro n
    induction n with
    | zero =>
      intro i hi
      rw [List.drop_eq_nil_of_le (by simp; omega)]
      exact ⟨fun _ => .done (by omega), fun _ => rfl⟩
    | succ n ih =>
      intro i hi
      by_cases h : i < s.size
      · have hne : s.data.toList.drop i ≠ [] := by
          intro e
          have := congrArg List.length e
          simp at this
          omega
        rw [validD_step _ hne, decodeL_drop]
        rcases wid_decode s i h with ⟨h1, h2⟩ | ⟨h1, h2, h3⟩
        · rw [if_pos h2]
          exact ⟨fun k => absurd k (by decide), fun k => absurd k (utf_bad h h1)⟩
        · rw [if_neg h3, List.drop_drop, h2, ih (i + wid s i) (by omega)]
          exact utf_step h h1
      · rw [List.drop_eq_nil_of_le (by simp; omega)]
        exact ⟨fun _ => .done (by omega), fun _ => rfl⟩
  exact tt_eq (by have := key s.size 0 (by omega); rw [List.drop_zero] at this; exact this)
end Go.Ab
