/-
  Arithmetic of the program's numbers: wrap-round, bits; numbers by digits.
-/
import Derived.Test.YtagooceoocohpaaSyPl
set_option linter.unusedVariables false
namespace Go.Sx

theorem wrap_i64 {x : Int} (h0 : -9223372036854775808 ≤ x) (h1 : x ≤ 9223372036854775807) : IntKind.i64.wrap x = x := by
  simp [IntKind.wrap, IntKind.signed, IntKind.bits]; split <;> omega
theorem wrap_u64 (x : Int) : IntKind.u64.wrap x = x % 18446744073709551616 := by simp [IntKind.wrap, IntKind.signed, IntKind.bits]
theorem wrap_u32 (x : Int) : IntKind.u32.wrap x = x % 4294967296 := by simp [IntKind.wrap, IntKind.signed, IntKind.bits]
theorem wrap_u8 (x : Int) : IntKind.u8.wrap x = x % 256 := by simp [IntKind.wrap, IntKind.signed, IntKind.bits]
theorem wrap_u64_id {x : Int} (h0 : 0 ≤ x) (h1 : x < 18446744073709551616) : IntKind.u64.wrap x = x := by rw [wrap_u64]; omega
theorem wrap_u32_id {x : Int} (h0 : 0 ≤ x) (h1 : x < 4294967296) : IntKind.u32.wrap x = x := by rw [wrap_u32]; omega
theorem wrap_u8_id {x : Int} (h0 : 0 ≤ x) (h1 : x < 256) : IntKind.u8.wrap x = x := by rw [wrap_u8]; omega

theorem wrap_range (k : IntKind) (x : Int) (hk : k.signed = false) : 0 ≤ k.wrap x ∧ k.wrap x < 2 ^ k.bits := by
  unfold IntKind.wrap
  rw [hk]
  simp only [Bool.false_and, Bool.false_eq_true, if_false]
  have h : (0 : Int) < 2 ^ k.bits := by cases k <;> decide
  exact ⟨Int.emod_nonneg _ (by omega), Int.emod_lt_of_pos _ h⟩

theorem wrap_id (k : IntKind) {x : Int} (hk : k.signed = false) (h0 : 0 ≤ x) (h1 : x < 2 ^ k.bits) : k.wrap x = x := by
  unfold IntKind.wrap
  rw [hk]
  simp only [Bool.false_and, Bool.false_eq_true, if_false]
  exact Int.emod_eq_of_lt h0 h1

theorem ofInt_toNat {n : Nat} (x : Nat) (h : x < 2 ^ n) : (BitVec.ofInt n (x : Int)).toNat = x := by
  rw [BitVec.ofInt_natCast, BitVec.toNat_ofNat, Nat.mod_eq_of_lt h]

theorem pow_cast (n : Nat) : ((2 ^ n : Nat) : Int) = (2 : Int) ^ n := by simp

theorem andI_nat (k : IntKind) (hk : k.signed = false) (x y : Nat) (hx : x < 2 ^ k.bits) (hy : y < 2 ^ k.bits) : andI k x y = ((x &&& y : Nat) : Int) := by
  unfold andI
  rw [BitVec.toNat_and, ofInt_toNat x hx, ofInt_toNat y hy]
  refine wrap_id k hk (by omega) ?_
  have := Nat.and_lt_two_pow x hy
  rw [← pow_cast]; omega

theorem orI_nat (k : IntKind) (hk : k.signed = false) (x y : Nat) (hx : x < 2 ^ k.bits) (hy : y < 2 ^ k.bits) : orI k x y = ((x ||| y : Nat) : Int) := by
  unfold orI
  rw [BitVec.toNat_or, ofInt_toNat x hx, ofInt_toNat y hy]
  refine wrap_id k hk (by omega) ?_
  have := Nat.or_lt_two_pow hx hy
  rw [← pow_cast]; omega

theorem xorI_nat (k : IntKind) (hk : k.signed = false) (x y : Nat) (hx : x < 2 ^ k.bits) (hy : y < 2 ^ k.bits) : xorI k x y = ((x ^^^ y : Nat) : Int) := by
  unfold xorI
  rw [BitVec.toNat_xor, ofInt_toNat x hx, ofInt_toNat y hy]
  refine wrap_id k hk (by omega) ?_
  have := Nat.xor_lt_two_pow hx hy
  rw [← pow_cast]; omega

theorem toNat_ex {x : Int} (h : 0 ≤ x) : ∃ n : Nat, x = n := ⟨x.toNat, by omega⟩

/-- The lowest bits. -/
theorem andI_low (k : IntKind) (hk : k.signed = false) (n : Nat) {x m : Int} (hm : m = 2 ^ n - 1) (hn : n < k.bits) (h0 : 0 ≤ x) (h1 : x < 2 ^ k.bits) : andI k x m = x % 2 ^ n := by
  obtain ⟨a, rfl⟩ := toNat_ex h0
  have hp : 0 < 2 ^ n := Nat.two_pow_pos n
  have e : m = ((2 ^ n - 1 : Nat) : Int) := by rw [hm, Int.natCast_sub (by omega), pow_cast]; simp
  have hlt : 2 ^ n < 2 ^ k.bits := Nat.pow_lt_pow_right (by decide) hn
  have h1' : a < 2 ^ k.bits := by rw [← pow_cast] at h1; omega
  rw [e, andI_nat k hk a _ h1' (by omega), Nat.and_two_pow_sub_one_eq_mod]
  simp

theorem andI_u64 (n : Nat) {x m : Int} (hm : m = 2 ^ n - 1) (hn : n < 64) (h0 : 0 ≤ x) (h1 : x < 18446744073709551616) : andI .u64 x m = x % 2 ^ n := andI_low .u64 rfl n hm hn h0 h1
theorem andI_u32 (n : Nat) {x m : Int} (hm : m = 2 ^ n - 1) (hn : n < 32) (h0 : 0 ≤ x) (h1 : x < 4294967296) : andI .u32 x m = x % 2 ^ n := andI_low .u32 rfl n hm hn h0 h1
theorem andI_u8 (n : Nat) {x m : Int} (hm : m = 2 ^ n - 1) (hn : n < 8) (h0 : 0 ≤ x) (h1 : x < 256) : andI .u8 x m = x % 2 ^ n := andI_low .u8 rfl n hm hn h0 h1

theorem shrI_div (k : IntKind) (x : Int) (n : Nat) (hn : n ≤ k.bits) : shrI k x n = x / 2 ^ n := by
  unfold shrI
  rw [Int.toNat_natCast, Nat.min_eq_left hn, Int.fdiv_eq_ediv_of_nonneg]
  exact Int.pow_nonneg (by decide)

theorem shlI_mul (k : IntKind) (x : Int) (n : Nat) (hn : n ≤ k.bits) : shlI k x n = k.wrap (x * 2 ^ n) := by
  unfold shlI
  rw [Int.toNat_natCast, Nat.min_eq_left hn]

/-- Bits that do not meet. -/
theorem orI_add (k : IntKind) (hk : k.signed = false) (n : Nat) {a b : Int} (hn : n ≤ k.bits) (ha : a % 2 ^ n = 0) (h0 : 0 ≤ a) (h1 : a < 2 ^ k.bits) (hb0 : 0 ≤ b) (hb : b < 2 ^ n) : orI k a b = a + b := by
  obtain ⟨x, rfl⟩ := toNat_ex h0
  obtain ⟨y, rfl⟩ := toNat_ex hb0
  have hlt : 2 ^ n ≤ 2 ^ k.bits := Nat.pow_le_pow_right (by decide) hn
  have hy : y < 2 ^ n := by rw [← pow_cast] at hb; omega
  have hx : x < 2 ^ k.bits := by rw [← pow_cast] at h1; omega
  have hx0 : x % 2 ^ n = 0 := by rw [← pow_cast] at ha; exact_mod_cast ha
  rw [orI_nat k hk x y hx (by omega)]
  have e : x = 2 ^ n * (x / 2 ^ n) := by have := Nat.div_add_mod x (2 ^ n); omega
  have : x ||| y = x + y := by
    conv => lhs; rw [e]
    conv => rhs; rw [e]
    exact (Nat.two_pow_add_eq_or_of_lt hy _).symm
  rw [this]; simp

theorem orI_comm (k : IntKind) (a b : Int) : orI k a b = orI k b a := by unfold orI; rw [BitVec.or_comm]
theorem andI_comm (k : IntKind) (a b : Int) : andI k a b = andI k b a := by unfold andI; rw [BitVec.and_comm]
theorem xorI_comm (k : IntKind) (a b : Int) : xorI k a b = xorI k b a := by unfold xorI; rw [BitVec.xor_comm]

/-! ### Arrays -/

theorem updA_self (f : Nat → Int) (i : Nat) (x : Int) : updA f i x i = x := by simp [updA]
theorem updA_ne (f : Nat → Int) {i j : Nat} (x : Int) (h : j ≠ i) : updA f i x j = f j := by simp [updA, h]
theorem updA_upd (f : Nat → Int) (i : Nat) (x y : Int) : updA (updA f i x) i y = updA f i y := by
  funext j; unfold updA; split <;> rfl

theorem eqA_iff {n : Nat} {f g : Nat → Int} : eqA n f g = true ↔ ∀ i, i < n → f i = g i := by
  simp [eqA]

/-! ### Numbers by digits -/

/-- The number of the first n digits, to a base. -/
def val (B : Int) : Nat → (Nat → Int) → Int
  | 0, _ => 0
  | n + 1, f => val B n f + f n * B ^ n

theorem val_congr {B : Int} : ∀ {n : Nat} {f g : Nat → Int}, (∀ i, i < n → f i = g i) → val B n f = val B n g
  | 0, _, _, _ => rfl
  | n + 1, f, g, h => by simp only [val]; rw [val_congr fun i hi => h i (by omega), h n (by omega)]

theorem val_upd_ge {B : Int} {n k : Nat} {f : Nat → Int} {x : Int} (h : n ≤ k) : val B n (updA f k x) = val B n f := val_congr fun i hi => updA_ne f x (by omega)

theorem val_upd {B : Int} {n k : Nat} {f : Nat → Int} {x : Int} (h : k < n) : val B n (updA f k x) = val B n f + (x - f k) * B ^ k := by
  induction n with
  | zero => omega
  | succ n ih =>
    simp only [val]
    by_cases e : k = n
    · subst e
      rw [val_upd_ge (Nat.le_refl _), updA_self, Int.sub_mul]; omega
    · rw [ih (by omega), updA_ne f x (by omega)]; omega

theorem pow_pos' {B : Int} (hB : 0 < B) (n : Nat) : 0 < B ^ n := Int.pow_pos hB

/-- Digits below the base: the number is below its power. -/
theorem val_lt {B : Int} (hB : 0 < B) : ∀ {n : Nat} {f : Nat → Int}, (∀ i, i < n → 0 ≤ f i ∧ f i < B) → 0 ≤ val B n f ∧ val B n f < B ^ n
  | 0, _, _ => by simp [val]
  | n + 1, f, h => by
    obtain ⟨h1, h2⟩ := val_lt hB (n := n) (f := f) fun i hi => h i (by omega)
    obtain ⟨h3, h4⟩ := h n (by omega)
    have hp := pow_pos' hB n
    simp only [val, Int.pow_succ]
    have a1 : 0 ≤ f n * B ^ n := Int.mul_nonneg h3 (by omega)
    have a2 : f n * B ^ n ≤ (B - 1) * B ^ n := Int.mul_le_mul_of_nonneg_right (by omega) (by omega)
    have a3 : (B - 1) * B ^ n = B ^ n * B - B ^ n := by rw [Int.sub_mul, Int.one_mul, Int.mul_comm]
    omega

theorem val_nonneg {B : Int} (hB : 0 < B) : ∀ {n : Nat} {f : Nat → Int}, (∀ i, i < n → 0 ≤ f i) → 0 ≤ val B n f
  | 0, _, _ => by simp [val]
  | n + 1, f, h => by
    have h1 := val_nonneg hB (n := n) (f := f) fun i hi => h i (by omega)
    have a1 : 0 ≤ f n * B ^ n := Int.mul_nonneg (h n (by omega)) (by have := pow_pos' hB n; omega)
    simp only [val]; omega

/-- The digits of a number. -/
theorem val_digit {B : Int} (hB : 0 < B) : ∀ {n : Nat} {f : Nat → Int}, (∀ i, i < n → 0 ≤ f i ∧ f i < B) → ∀ i, i < n → f i = val B n f / B ^ i % B
  | 0, _, _, i, h => by omega
  | n + 1, f, h, i, hi => by
    have hp := pow_pos' hB n
    obtain ⟨h1, h2⟩ := val_lt hB (n := n) (f := f) fun i hi => h i (by omega)
    obtain ⟨h3, h4⟩ := h n (by omega)
    simp only [val]
    by_cases e : i = n
    · subst e
      rw [Int.add_mul_ediv_right _ _ (by omega), Int.ediv_eq_zero_of_lt h1 h2, Int.zero_add, Int.emod_eq_of_lt h3 h4]
    · have hlt : i < n := by omega
      rw [val_digit hB (n := n) (f := f) (fun i hi => h i (by omega)) i hlt]
      obtain ⟨k, rfl⟩ : ∃ k, n = i + (k + 1) := ⟨n - i - 1, by omega⟩
      have e1 : f (i + (k + 1)) * B ^ (i + (k + 1)) = (f (i + (k + 1)) * B ^ k * B) * B ^ i := by
        rw [Int.pow_add, Int.pow_succ]; simp only [Int.mul_assoc, Int.mul_comm, Int.mul_left_comm]
      have hpi := pow_pos' hB i
      rw [e1, Int.add_mul_ediv_right _ _ (by omega), Int.add_mul_emod_self_right]

theorem val_ext {B : Int} (hB : 0 < B) {n : Nat} {f g : Nat → Int} (hf : ∀ i, i < n → 0 ≤ f i ∧ f i < B) (hg : ∀ i, i < n → 0 ≤ g i ∧ g i < B) (h : val B n f = val B n g) : ∀ i, i < n → f i = g i := fun i hi => by
  rw [val_digit hB hf i hi, val_digit hB hg i hi, h]

end Go.Sx
namespace Go.Sx

/-! ### Carries -/

structure CarryI (B : Int) (n : Nat) (l0 : Nat → Int) (c0 M : Int) (j : Nat) (c : Int) (l : Nat → Int) : Prop where
  jn : j ≤ n
  low : ∀ i, i < j → 0 ≤ l i ∧ l i < B
  high : ∀ i, j ≤ i → l i = l0 i
  sum : val B n l + c * B ^ j = val B n l0 + c0
  cm : 0 ≤ c ∧ c ≤ M

theorem CarryI.start {B : Int} {n : Nat} {l : Nat → Int} {c M : Int} (h : 0 ≤ c ∧ c ≤ M) : CarryI B n l c M 0 c l :=
  ⟨Nat.zero_le _, fun i hi => by omega, fun i _ => rfl, by simp, h⟩

theorem CarryI.step {B : Int} {n : Nat} {l0 : Nat → Int} {c0 M : Int} {j : Nat} {c : Int} {l : Nat → Int} (hB : 0 < B) (h : CarryI B n l0 c0 M j c l) (hj : j < n) (hL : 0 ≤ l0 j ∧ (l0 j + M) / B ≤ M) :
    CarryI B n l0 c0 M (j + 1) ((l j + c) / B) (updA l j ((l j + c) % B)) := by
  have e := h.high j (Nat.le_refl _)
  have hs := h.sum
  have hc := h.cm
  have hm := Int.emod_nonneg (l j + c) (show B ≠ 0 by omega)
  have hm2 := Int.emod_lt_of_pos (l j + c) hB
  refine ⟨by omega, fun i hi => ?_, fun i hi => ?_, ?_, ?_⟩
  · by_cases e' : i = j
    · subst e'; rw [updA_self]; exact ⟨hm, hm2⟩
    · rw [updA_ne _ _ e']; exact h.low i (by omega)
  · rw [updA_ne _ _ (by omega)]; exact h.high i (by omega)
  · rw [val_upd hj, ← hs, Int.pow_succ]
    have hd := Int.emod_add_mul_ediv (l j + c) B
    generalize (l j + c) % B = r at *
    generalize (l j + c) / B = q at *
    have : r = l j + c - B * q := by omega
    rw [this]
    have e2 : q * (B ^ j * B) = B * q * B ^ j := by simp only [Int.mul_assoc, Int.mul_comm, Int.mul_left_comm]
    rw [e2, Int.sub_mul, Int.sub_mul, Int.add_mul]
    omega
  · refine ⟨Int.ediv_nonneg (by omega) (by omega), Int.le_trans (Int.ediv_le_ediv hB (by omega : l j + c ≤ l0 j + M)) hL.2⟩


theorem val_add {B : Int} (m : Nat) (f : Nat → Int) : ∀ (n : Nat), val B (m + n) f = val B m f + B ^ m * val B n (fun t => f (m + t))
  | 0 => by simp [val]
  | n + 1 => by
    rw [← Nat.add_assoc]
    simp only [val]
    rw [val_add m f n, Int.mul_add, Int.pow_add]
    have e : f (m + n) * (B ^ m * B ^ n) = B ^ m * (f (m + n) * B ^ n) := by simp only [Int.mul_left_comm]
    rw [e]; omega

/-- Bytes laid into words. -/
theorem val_pad {B : Int} {n m : Nat} {f : Nat → Int} (h : n ≤ m) (h0 : ∀ i, n ≤ i → i < m → f i = 0) : val B m f = val B n f := by
  obtain ⟨k, rfl⟩ : ∃ k, m = n + k := ⟨m - n, by omega⟩
  induction k with
  | zero => rfl
  | succ k ih => rw [← Nat.add_assoc]; simp only [val]; rw [ih (by omega) (fun i h1 h2 => h0 i h1 (by omega)), h0 (n + k) (by omega) (by omega)]; simp

theorem pow256 (t : Nat) : (256 : Int) ^ t = 2 ^ (8 * t) := by rw [Int.pow_mul]; rfl

/-- One more byte or-ed into a word. -/
theorem or_byte (k : IntKind) (hk : k.signed = false) {t : Nat} {x b : Int} (ht : 8 * (t + 1) ≤ k.bits) (hx0 : 0 ≤ x) (hx : x < 256 ^ t) (hb0 : 0 ≤ b) (hb : b < 256) : orI k x (shlI k b ((8 * t : Nat) : Int)) = x + b * 256 ^ t := by
  have hp : (0 : Int) < 256 ^ t := Int.pow_pos (by decide)
  have hle : b * 2 ^ (8 * t) < 2 ^ k.bits := by
    have h1 : (2 : Int) ^ (8 * (t + 1)) ≤ 2 ^ k.bits := by rw [← pow_cast, ← pow_cast]; exact_mod_cast Nat.pow_le_pow_right (by decide) ht
    have h2 : b * 2 ^ (8 * t) < 256 * 2 ^ (8 * t) := Int.mul_lt_mul_of_pos_right hb (by rw [← pow256]; exact hp)
    have h3 : (2 : Int) ^ (8 * (t + 1)) = 256 * 2 ^ (8 * t) := by rw [Nat.mul_add, Int.pow_add, Int.mul_comm]; rfl
    omega
  have hnn : 0 ≤ b * 2 ^ (8 * t) := Int.mul_nonneg hb0 (by rw [← pow256]; omega)
  rw [shlI_mul k b (8 * t) (by omega), wrap_id k hk hnn hle, orI_comm, orI_add k hk (8 * t) (by omega) (Int.mul_emod_left _ _) hnn hle hx0 (by rw [← pow256]; exact hx), ← pow256]
  omega

end Go.Sx
