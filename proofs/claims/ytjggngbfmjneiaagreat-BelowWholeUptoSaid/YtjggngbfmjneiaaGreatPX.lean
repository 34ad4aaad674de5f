import Derived.Test.YtjggngbfmjneiaaGreatPW
set_option linter.unusedVariables false
set_option linter.unusedSimpArgs false
namespace Go.Ab
section
variable {P : Program} {T : Tab}
/-! ### Functions that read the caller's own boxes (closures) -/
theorem HCall.of_fx (hT : TabOk P T) (hm : P.follows .mixedOrders = true) {k : FuncId} {fn : Func} {c : Code} {args : List V} {H : List O} {r : V} (hf : P.funcs[k]? = some fn) (hb : fn.body = some c) (hn : (fn.name == "runtime.NumGoroutine") = false)
    (hr : r.pure = true) (h : fx P T c (initSt fn.ntmps args H) (RetF P T fn H.length (fun r' H' => r' = r ∧ H' = H))) : HCall P k args H r :=
  ⟨SCall.of_execD hf hb hn ((fx_sound hT hm h).mono fun e s hs => hs.toD), hr⟩
theorem retH (hT : TabOk P T) {fn : Func} {s : St} {rs : List V} {r : V} {H extra : List O} (h : resAll T s fn.results.toList = some rs) (hp : s.hp = H ++ extra) (hlt : hpLt H.length H = true) (e : EntV (tupV rs) r) (hr : r.pure = true) : RetF P T fn H.length (fun r' H' => r' = r ∧ H' = H) .ret s :=
  .ret ⟨rs, resAll_sound hT h, r, H, extra, e, hp, Nat.le_refl _, hlt, pure_lt _ _ hr, rfl, rfl⟩
theorem HCall.use {k : FuncId} {args args' : List V} {H : List O} {r : V} {K : V → List O → Prop} (h : HCall P k args' H r) (e : EntL args args') (hk : K r H) : SCall P k args H K :=
  (h.1.args e).mono fun r' H' ⟨e1, e2⟩ => by subst e1; subst e2; exact hk
theorem HCall.useQ {k : FuncId} {args args' : List V} {H : List O} {r : V} {K : V → Prop} (h : HCall P k args' H r) (e : EntL args args') (hk : K r) : ∃ r, HCall P k args H r ∧ K r := ⟨r, h.args e, hk⟩
end

/-! ### Kinds as bits -/
def bit (n k : Nat) : Bool := decide (n / 2 ^ k % 2 = 1)
def and8 (a b : Int) : Int := IntKind.u8.wrap (BitVec.ofInt 8 a &&& BitVec.ofInt 8 b).toNat
def or8 (a b : Int) : Int := IntKind.u8.wrap (BitVec.ofInt 8 a ||| BitVec.ofInt 8 b).toNat
def andI (a b : Int) : Int := IntKind.i64.wrap (BitVec.ofInt 64 a &&& BitVec.ofInt 64 b).toNat
def orI (a b : Int) : Int := IntKind.i64.wrap (BitVec.ofInt 64 a ||| BitVec.ofInt 64 b).toNat
set_option maxRecDepth 100000 in
theorem bit_shr : ∀ n : Fin 256, ∀ k : Fin 8, (and8 (((n.val : Nat) : Int).fdiv (2 ^ k.val)) 1 == 1) = bit n.val k.val := by decide +kernel
theorem all_and8 : ∀ n : Fin 256, (and8 ((n.val : Nat) : Int) 127 == 127) = decide (n.val % 128 = 127) := by decide +kernel
theorem low_and8 : ∀ n : Fin 256, and8 ((n.val : Nat) : Int) 127 = ((n.val % 128 : Nat) : Int) := by decide +kernel
theorem low_andI : ∀ n : Fin 256, andI ((n.val : Nat) : Int) 127 = ((n.val % 128 : Nat) : Int) := by decide +kernel
theorem bit_andI : ∀ n : Fin 128, ∀ k : Fin 7, (andI ((n.val : Nat) : Int) ((2 ^ k.val : Nat) : Int) != 0) = bit n.val k.val := by decide +kernel
theorem bit_low : ∀ n : Fin 256, ∀ k : Fin 7, bit (n.val % 128) k.val = bit n.val k.val := by decide +kernel
def or8If (b : Bool) (p c : Int) : Int := if b = true then or8 p c else p
def orIIf (b : Bool) (p c : Int) : Int := if b = true then orI p c else p
def kN (b0 b1 b2 b3 b4 b5 b6 : Bool) : Nat := b0.toNat + 2 * b1.toNat + 4 * b2.toNat + 8 * b3.toNat + 16 * b4.toNat + 32 * b5.toNat + 64 * b6.toNat
theorem or8_kN : ∀ b0 b1 b2 b3 b4 b5 b6 : Bool, or8If b6 (or8If b5 (or8If b4 (or8If b3 (or8If b2 (or8If b1 (or8If b0 0 1) 2) 4) 8) 16) 32) 64 = (kN b0 b1 b2 b3 b4 b5 b6 : Nat) := by decide +kernel
theorem orI_kN : ∀ b0 b1 b2 b3 b4 b5 b6 : Bool, orIIf b6 (orIIf b5 (orIIf b4 (orIIf b3 (orIIf b2 (orIIf b1 (orIIf b0 0 1) 2) 4) 8) 16) 32) 64 = (kN b0 b1 b2 b3 b4 b5 b6 : Nat) := by decide +kernel
theorem kN_bits : ∀ n : Fin 128, kN (bit n.val 0) (bit n.val 1) (bit n.val 2) (bit n.val 3) (bit n.val 4) (bit n.val 5) (bit n.val 6) = n.val := by decide +kernel
theorem kN_lt (b0 b1 b2 b3 b4 b5 b6 : Bool) : kN b0 b1 b2 b3 b4 b5 b6 < 128 := by revert b0 b1 b2 b3 b4 b5 b6; decide +kernel

/-- The kinds of a type's values, as bits. -/
def kinds (t : Ty) : Nat := if t.all = true then 127 else kN t.null t.fls t.tru (decide (0 < t.nums.length)) (t.anyText || decide (0 < t.texts.length)) (decide (0 < t.arrays.length)) (decide (0 < t.objects.length))
def spOpen : Sp := ⟨⟨#[]⟩, ⟨#[]⟩⟩
def arOpen : Ar := .mk tyAll 0 (-1)
def obOpen : Ob := .mk [] [] [] tyAll
/-- The type of the values of some kinds. -/
def tyOf (b0 b1 b2 b3 b4 b5 b6 : Bool) : Ty := .mk false b0 b1 b2 (if b3 then [spOpen] else []) b4 [] (if b5 then [arOpen] else []) (if b6 then [obOpen] else [])
def tyKinds (n : Nat) : Ty := if n % 128 = 127 then tyAll else tyOf (bit n 0) (bit n 1) (bit n 2) (bit n 3) (bit n 4) (bit n 5) (bit n 6)
theorem kinds_tyOf (b0 b1 b2 b3 b4 b5 b6 : Bool) : kinds (tyOf b0 b1 b2 b3 b4 b5 b6) = kN b0 b1 b2 b3 b4 b5 b6 := by
  cases b3 <;> cases b5 <;> cases b6 <;> simp [kinds, tyOf, Ty.all, Ty.null, Ty.fls, Ty.tru, Ty.nums, Ty.anyText, Ty.texts, Ty.arrays, Ty.objects]
theorem kinds_tyKinds (n : Nat) (h : n < 256) : kinds (tyKinds n) = n % 128 := by
  unfold tyKinds
  split
  · rename_i e; rw [e]; rfl
  · rw [kinds_tyOf]
    have e := kN_bits ⟨n % 128, by omega⟩
    have hb : ∀ k, (hk : k < 7) → bit (n % 128) k = bit n k := fun k hk => bit_low ⟨n, h⟩ ⟨k, hk⟩
    simp only at e
    rw [hb 0 (by omega), hb 1 (by omega), hb 2 (by omega), hb 3 (by omega), hb 4 (by omega), hb 5 (by omega), hb 6 (by omega)] at e
    exact e
theorem bits_all (n : Nat) (h : n % 128 = 127) : ∀ k, k < 7 → bit n k = true := by
  intro k hk
  have h1 : bit (n % 128) k = bit n k := by
    have := bit_low ⟨n % 256, by omega⟩ ⟨k, hk⟩
    have e1 : ∀ m, m < 7 → bit (n % 256) m = bit n m := fun m hm => by
      unfold bit
      have : n % 256 / 2 ^ m % 2 = n / 2 ^ m % 2 := by
        rcases (show m = 0 ∨ m = 1 ∨ m = 2 ∨ m = 3 ∨ m = 4 ∨ m = 5 ∨ m = 6 by omega) with rfl | rfl | rfl | rfl | rfl | rfl | rfl <;> omega
      rw [this]
    simp only at this
    rw [e1 k hk, show n % 256 % 128 = n % 128 by omega] at this
    exact this
  rw [← h1, h]
  rcases (show k = 0 ∨ k = 1 ∨ k = 2 ∨ k = 3 ∨ k = 4 ∨ k = 5 ∨ k = 6 by omega) with rfl | rfl | rfl | rfl | rfl | rfl | rfl <;> rfl

/-- Which values are of the type of some kinds. -/
theorem inT_kinds {n : Nat} {v : Val} (hv : VOk v) : InT (tyKinds n) v ↔ bit n v.kind.toNat = true := by
  have hs : InSp v.num spOpen := ⟨fun h => absurd rfl h, fun h => absurd rfl h⟩
  cases hv with | mk lo hi num num' text text' items keys len rise all =>
  unfold tyKinds
  split
  · rename_i e
    exact ⟨fun _ => bits_all n e _ (by omega), fun _ => .all rfl⟩
  rcases (show v.kind = 0 ∨ v.kind = 1 ∨ v.kind = 2 ∨ v.kind = 3 ∨ v.kind = 4 ∨ v.kind = 5 ∨ v.kind = 6 by omega) with k | k | k | k | k | k | k
  · rw [inT_0 rfl k, k]; rfl
  · rw [inT_1 rfl k, k]; rfl
  · rw [inT_2 rfl k, k]; rfl
  · rw [inT_3 rfl k, k]
    show _ ↔ bit n 3 = true
    cases h : bit n 3 with
    | true => exact ⟨fun _ => rfl, fun _ => ⟨by simp [tyOf, Ty.nums], by simpa [tyOf, Ty.nums] using hs⟩⟩
    | false => exact ⟨fun ⟨l, _⟩ => by simp [tyOf, Ty.nums] at l, fun h => by cases h⟩
  · rw [inT_4 rfl k, k]
    show _ ∨ _ ∈ [] ↔ bit n 4 = true
    simp [tyOf, Ty.anyText]
  · rw [inT_5 rfl k, k]
    show _ ↔ bit n 5 = true
    cases h : bit n 5 with
    | true => exact ⟨fun _ => rfl, fun _ => ⟨by simp [tyOf, Ty.arrays], by simp [tyOf, Ty.arrays, arOpen, Ar.min], by simp [tyOf, Ty.arrays, arOpen, Ar.max], fun x _ => .all (by simp [tyOf, Ty.arrays, arOpen, Ar.item]; rfl)⟩⟩
    | false => exact ⟨fun ⟨l, _⟩ => by simp [tyOf, Ty.arrays] at l, fun h => by cases h⟩
  · rw [inT_6 rfl k, k]
    show _ ↔ bit n 6 = true
    cases h : bit n 6 with
    | true => exact ⟨fun _ => rfl, fun _ => ⟨obOpen, by simp [tyOf, Ty.objects], fun i h => by simp [obOpen, Ob.names] at h, fun i h => by simp [obOpen, Ob.names] at h, fun i h h' _ => .all rfl⟩⟩
    | false => exact ⟨fun ⟨o, ho, _⟩ => by simp [tyOf, Ty.objects] at ho, fun h => by cases h⟩
end Go.Ab
