import Derived.Test.YtjggngbfmjneiaaGreatPD
set_option linter.unusedVariables false
set_option linter.unusedSimpArgs false
namespace Go.Ab

/-! ### Orders -/
def cmpL {α : Type} (c : α → α → Int) : List α → List α → Int
  | [], [] => 0
  | [], _ :: _ => -1
  | _ :: _, [] => 1
  | x :: l, y :: m => if c x y = 0 then cmpL c l m else c x y
def orL : List Int → Int
  | [] => 0
  | x :: l => if x = 0 then orL l else x
def truthC (a b : Bool) : Int := if a = b then 0 else if b = true then -1 else 1

structure TO {α : Type} (p : α → Prop) (c : α → α → Int) : Prop where
  range : ∀ a b, p a → p b → c a b = -1 ∨ c a b = 0 ∨ c a b = 1
  anti : ∀ a b, p a → p b → c a b = -c b a
  trans : ∀ a b d, p a → p b → p d → c a b ≤ 0 → c b d ≤ 0 → c a d ≤ 0
  eq : ∀ a b, p a → p b → c a b = 0 → a = b

theorem TO.refl {α : Type} {p : α → Prop} {c : α → α → Int} (h : TO p c) {a : α} (ha : p a) : c a a = 0 := by
  have := h.anti a a ha ha; omega
/-- Strictly below, from either side. -/
theorem TO.lt1 {α : Type} {p : α → Prop} {c : α → α → Int} (h : TO p c) {a b d : α} (ha : p a) (hb : p b) (hd : p d) (h1 : c a b ≤ 0) (h2 : c b d ≤ 0) (h3 : c a d = 0) : c a b = 0 ∧ c b d = 0 := by
  have e := h.eq a d ha hd h3
  subst e
  have := h.anti a b ha hb
  omega
theorem truth_TO : TO (fun _ => True) truthC where
  range a b _ _ := by cases a <;> cases b <;> decide
  anti a b _ _ := by cases a <;> cases b <;> decide
  trans a b d _ _ _ := by cases a <;> cases b <;> cases d <;> decide
  eq a b _ _ := by cases a <;> cases b <;> decide

/-- First by c, then by e. -/
theorem TO.then {α β : Type} {p : α → Prop} {q : β → Prop} {c : α → α → Int} {e : β → β → Int} (h : TO p c) (k : TO q e) : TO (fun x : α × β => p x.1 ∧ q x.2) (fun x y => if c x.1 y.1 = 0 then e x.2 y.2 else c x.1 y.1) where
  range a b ha hb := by
    split
    · exact k.range _ _ ha.2 hb.2
    · exact h.range _ _ ha.1 hb.1
  anti a b ha hb := by
    have h1 := h.anti a.1 b.1 ha.1 hb.1
    have h2 := k.anti a.2 b.2 ha.2 hb.2
    split <;> split <;> omega
  trans a b d ha hb hd h1 h2 := by
    have t1 := h.trans a.1 b.1 d.1 ha.1 hb.1 hd.1
    have t2 := k.trans a.2 b.2 d.2 ha.2 hb.2 hd.2
    have t3 := h.lt1 ha.1 hb.1 hd.1
    split
    · rename_i e3
      split at h1 <;> split at h2
      · exact t2 h1 h2
      · rename_i e1 e2; have := t3 (by omega) h2 e3; omega
      · rename_i e1 e2; have := t3 h1 (by omega) e3; omega
      · rename_i e1 e2; have := t3 h1 h2 e3; omega
    · split at h1 <;> split at h2 <;> exact t1 (by omega) (by omega)
  eq a b ha hb h1 := by
    split at h1
    · rename_i e; exact Prod.ext (h.eq _ _ ha.1 hb.1 e) (k.eq _ _ ha.2 hb.2 h1)
    · rename_i e; exact absurd h1 e

theorem TO.map {α β : Type} {p : β → Prop} {q : α → Prop} {c : β → β → Int} (h : TO p c) (f : α → β) (hp : ∀ a, q a → p (f a)) (hf : ∀ a b, q a → q b → f a = f b → a = b) : TO q (fun a b => c (f a) (f b)) where
  range a b ha hb := h.range _ _ (hp a ha) (hp b hb)
  anti a b ha hb := h.anti _ _ (hp a ha) (hp b hb)
  trans a b d ha hb hd := h.trans _ _ _ (hp a ha) (hp b hb) (hp d hd)
  eq a b ha hb e := hf a b ha hb (h.eq _ _ (hp a ha) (hp b hb) e)

theorem cmpL_range {α : Type} {p : α → Prop} {c : α → α → Int} (h : TO p c) : ∀ (l m : List α), (∀ x ∈ l, p x) → (∀ x ∈ m, p x) → cmpL c l m = -1 ∨ cmpL c l m = 0 ∨ cmpL c l m = 1
  | [], [], _, _ => by simp [cmpL]
  | [], _ :: _, _, _ => by simp [cmpL]
  | _ :: _, [], _, _ => by simp [cmpL]
  | x :: l, y :: m, hl, hm => by
    rw [cmpL]; split
    · exact cmpL_range h l m (fun z hz => hl z (List.mem_cons_of_mem _ hz)) (fun z hz => hm z (List.mem_cons_of_mem _ hz))
    · exact h.range _ _ (hl x (List.mem_cons_self ..)) (hm y (List.mem_cons_self ..))
theorem cmpL_anti {α : Type} {p : α → Prop} {c : α → α → Int} (h : TO p c) : ∀ (l m : List α), (∀ x ∈ l, p x) → (∀ x ∈ m, p x) → cmpL c l m = -cmpL c m l
  | [], [], _, _ => by simp [cmpL]
  | [], _ :: _, _, _ => by simp [cmpL]
  | _ :: _, [], _, _ => by simp [cmpL]
  | x :: l, y :: m, hl, hm => by
    have h1 := h.anti x y (hl x (List.mem_cons_self ..)) (hm y (List.mem_cons_self ..))
    have h2 := cmpL_anti h l m (fun z hz => hl z (List.mem_cons_of_mem _ hz)) (fun z hz => hm z (List.mem_cons_of_mem _ hz))
    rw [cmpL, cmpL]
    split <;> split <;> omega
theorem cmpL_eq {α : Type} {p : α → Prop} {c : α → α → Int} (h : TO p c) : ∀ (l m : List α), (∀ x ∈ l, p x) → (∀ x ∈ m, p x) → cmpL c l m = 0 → l = m
  | [], [], _, _, _ => rfl
  | [], _ :: _, _, _, e => by simp [cmpL] at e
  | _ :: _, [], _, _, e => by simp [cmpL] at e
  | x :: l, y :: m, hl, hm, e => by
    rw [cmpL] at e
    split at e
    · rename_i e1
      rw [h.eq x y (hl x (List.mem_cons_self ..)) (hm y (List.mem_cons_self ..)) e1, cmpL_eq h l m (fun z hz => hl z (List.mem_cons_of_mem _ hz)) (fun z hz => hm z (List.mem_cons_of_mem _ hz)) e]
    · rename_i e1; exact absurd e e1
theorem cmpL_trans {α : Type} {p : α → Prop} {c : α → α → Int} (h : TO p c) : ∀ (l m n : List α), (∀ x ∈ l, p x) → (∀ x ∈ m, p x) → (∀ x ∈ n, p x) → cmpL c l m ≤ 0 → cmpL c m n ≤ 0 → cmpL c l n ≤ 0
  | [], _, [], _, _, _, _, _ => by simp [cmpL]
  | [], _, _ :: _, _, _, _, _, _ => by simp [cmpL]
  | _ :: _, [], _, _, _, _, h1, _ => by simp [cmpL] at h1
  | _ :: _, _ :: _, [], _, _, _, _, h2 => by simp [cmpL] at h2
  | x :: l, y :: m, z :: n, hl, hm, hn, h1, h2 => by
    have px := hl x (List.mem_cons_self ..)
    have py := hm y (List.mem_cons_self ..)
    have pz := hn z (List.mem_cons_self ..)
    have t1 := h.trans x y z px py pz
    have t2 := cmpL_trans h l m n (fun z hz => hl z (List.mem_cons_of_mem _ hz)) (fun z hz => hm z (List.mem_cons_of_mem _ hz)) (fun z hz => hn z (List.mem_cons_of_mem _ hz))
    have t3 := h.lt1 px py pz
    rw [cmpL] at h1 h2 ⊢
    split
    · rename_i e3
      split at h1 <;> split at h2
      · exact t2 h1 h2
      · have := t3 (by omega) h2 e3; omega
      · have := t3 h1 (by omega) e3; omega
      · have := t3 h1 h2 e3; omega
    · split at h1 <;> split at h2 <;> exact t1 (by omega) (by omega)
theorem TO.list {α : Type} {p : α → Prop} {c : α → α → Int} (h : TO p c) : TO (fun l : List α => ∀ x ∈ l, p x) (cmpL c) :=
  ⟨cmpL_range h, cmpL_anti h, cmpL_trans h, cmpL_eq h⟩

def intC (n : Int) : List D := [.lit (.int .i64 n)]
def vInts (l : List Int) : V := .d (.sl (l.map intC))
theorem idxInt {l : List Int} {k n : Nat} {K : V → List O → Prop} {H : List O} (h : k < l.length) (hn : 1 = n) (hk : K (.rp [.lit (.int .i64 (l[k]'h))]) H) : IdxS (l.map intC) (k : Int) n K H :=
  idx_nat (by simpa using h) (row_at intC l k h) hn (by subst hn; decide) hk
end Go.Ab
