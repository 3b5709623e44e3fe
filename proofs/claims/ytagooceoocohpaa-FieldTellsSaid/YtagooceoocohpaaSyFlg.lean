/-
  Functions of the field, the last: bytes.
-/
import Derived.Test.YtagooceoocohpaaSyFlf
set_option maxRecDepth 100000
set_option linter.unusedVariables false
namespace Go.Sx

theorem emod_mul_ediv {X P Q : Int} (hP : 0 < P) (hQ : 0 < Q) : X % (P * Q) / P = X / P % Q := by
  have hd := Int.emod_add_mul_ediv X (P * Q)
  have hpq : 0 < P * Q := Int.mul_pos hP hQ
  have r1 := Int.emod_nonneg X (show P * Q ≠ 0 by omega)
  have r2 := Int.emod_lt_of_pos X hpq
  generalize X / (P * Q) = k at *
  generalize X % (P * Q) = r at *
  subst hd
  rw [show r + P * Q * k = r + P * (Q * k) by rw [Int.mul_assoc], Int.add_mul_ediv_left _ _ (by omega), Int.add_mul_emod_self_left]
  refine (Int.emod_eq_of_lt (Int.ediv_nonneg r1 (by omega)) ?_).symm
  rw [Int.ediv_lt_iff_lt_mul hP, Int.mul_comm]; exact r2

theorem val_of_digits {B n : Int} (hB : 0 < B) {f : Nat → Int} : ∀ {m : Nat}, (∀ i, i < m → f i = n / B ^ i % B) → val B m f = n % B ^ m
  | 0, _ => by simp [val]
  | m + 1, h => by
    have hp := pow_pos' hB m
    simp only [val]
    rw [val_of_digits hB fun i hi => h i (by omega), h m (by omega), Int.pow_succ, ← emod_mul_ediv hp hB]
    have e1 : n % (B ^ m * B) % B ^ m = n % B ^ m := Int.emod_emod_of_dvd _ (Int.dvd_mul_right _ _)
    rw [← e1]
    have := Int.emod_add_mul_ediv (n % (B ^ m * B)) (B ^ m)
    rw [Int.mul_comm (_ / _)]
    omega

/-- A number's bytes. -/
def KeyOf (k : Nat → Int) (n : Int) : Prop := IsBytes 32 k ∧ val 256 32 k = n

theorem KeyOf.of_digits {k : Nat → Int} {n : Int} (h0 : 0 ≤ n) (h1 : n < 256 ^ 32) (h : ∀ i, i < 32 → k i = n / 256 ^ i % 256) : KeyOf k n := by
  refine ⟨fun i hi => by rw [h i hi]; omega, ?_⟩
  rw [val_of_digits (by decide) h]; exact Int.emod_eq_of_lt h0 h1

theorem KeyOf.ext {k l : Nat → Int} {n : Int} (h : KeyOf k n) (h' : KeyOf l n) : ∀ i, i < 32 → k i = l i :=
  val_ext (by decide) h.1 h'.1 (h.2.trans h'.2.symm)

/-- A word out of two limbs. -/
theorem word2 {x y : Int} (m n : Nat) (hm : m + n = 51) (hx0 : 0 ≤ x) (hx : x < B51) (hy0 : 0 ≤ y) (hy : y < B51) :
    orI .u64 (shrI .u64 x m) (shlI .u64 y n) = x / 2 ^ m + 2 ^ n * (y % 2 ^ (64 - n)) := by
  have hpn : (0 : Int) < 2 ^ n := Int.pow_pos (by decide)
  have hpm : (0 : Int) < 2 ^ m := Int.pow_pos (by decide)
  have hmn : (2 : Int) ^ m * 2 ^ n = B51 := by rw [← Int.pow_add, hm]; rfl
  have hqn : (2 : Int) ^ n * 2 ^ (64 - n) = 18446744073709551616 := by rw [← Int.pow_add, show n + (64 - n) = 64 by omega]; rfl
  have hq : (0 : Int) < 2 ^ (64 - n) := Int.pow_pos (by decide)
  have hxm : x / 2 ^ m < 2 ^ n := by rw [Int.ediv_lt_iff_lt_mul hpm, Int.mul_comm, hmn]; exact hx
  have hx0' : 0 ≤ x / 2 ^ m := Int.ediv_nonneg hx0 (by omega)
  have hs : y * 2 ^ n % 18446744073709551616 = 2 ^ n * (y % 2 ^ (64 - n)) := by rw [← hqn, Int.mul_comm y]; exact Int.mul_emod_mul_of_pos _ _ hpn
  have hy0' := Int.emod_nonneg y (show (2 : Int) ^ (64 - n) ≠ 0 by omega)
  have hym := Int.emod_lt_of_pos y hq
  have hb : 2 ^ n * (y % 2 ^ (64 - n)) < 18446744073709551616 := by rw [← hqn]; exact Int.mul_lt_mul_of_pos_left hym hpn
  have hb0 : 0 ≤ 2 ^ n * (y % 2 ^ (64 - n)) := Int.mul_nonneg (by omega) hy0'
  rw [shr64 _ _ (by omega), shl64 _ _ (by omega), hs, orI_comm, orI_add .u64 rfl n (by simp only [IntKind.bits]; omega) (Int.mul_emod_right _ _) hb0 hb hx0' hxm]
  omega

theorem field_Key_ret {l : Nat → Int} {n : Int} (hl : FE l n) : Ret (F_field_Elem_Key l) fun r => KeyOf r n := by
  unfold F_field_Elem_Key
  have b0 := hl.dig 0 (by omega); have b1 := hl.dig 1 (by omega); have b2 := hl.dig 2 (by omega); have b3 := hl.dig 3 (by omega); have b4 := hl.dig 4 (by omega)
  have w0 : orI .u64 (l 0) (shlI .u64 (l 1) 51) = l 0 + 2 ^ 51 * (l 1 % 2 ^ 13) := by
    have := word2 0 51 rfl b0.1 b0.2 b1.1 b1.2
    rw [shr64 _ _ (by omega), Int.pow_zero, Int.ediv_one] at this
    exact this
  have w1 : orI .u64 (shrI .u64 (l 1) 13) (shlI .u64 (l 2) 38) = l 1 / 2 ^ 13 + 2 ^ 38 * (l 2 % 2 ^ 26) := word2 13 38 rfl b1.1 b1.2 b2.1 b2.2
  have w2 : orI .u64 (shrI .u64 (l 2) 26) (shlI .u64 (l 3) 25) = l 2 / 2 ^ 26 + 2 ^ 25 * (l 3 % 2 ^ 39) := word2 26 25 rfl b2.1 b2.2 b3.1 b3.2
  have w3 : orI .u64 (shrI .u64 (l 3) 39) (shlI .u64 (l 4) 12) = l 3 / 2 ^ 39 + 2 ^ 12 * (l 4 % 2 ^ 52) := word2 39 12 rfl b3.1 b3.2 b4.1 b4.2
  repeat (with_reducible refine ret_let ?_)
  simp only [w0, w1, w2, w3]
  generalize hw : updA (updA (updA (updA (fun _ => 0) 0 (l 0 + 2 ^ 51 * (l 1 % 2 ^ 13))) 1 (l 1 / 2 ^ 13 + 2 ^ 38 * (l 2 % 2 ^ 26))) 2 (l 2 / 2 ^ 26 + 2 ^ 25 * (l 3 % 2 ^ 39))) 3 (l 3 / 2 ^ 39 + 2 ^ 12 * (l 4 % 2 ^ 52)) = w
  have hn0 := hl.nonneg
  have hnv := hl.val
  have hnl := hl.lt
  rw [val5n] at hnv
  have hwb : ∀ j, j < 4 → 0 ≤ w j ∧ w j < 18446744073709551616 := fun j hj => by
    have : j = 0 ∨ j = 1 ∨ j = 2 ∨ j = 3 := by omega
    unfold B51 at *
    rcases this with rfl | rfl | rfl | rfl <;> rw [← hw] <;> simp [updA] <;> omega
  have hwv : val 18446744073709551616 4 w = n := by
    have e : val 18446744073709551616 4 w = w 0 + w 1 * 18446744073709551616 + w 2 * 340282366920938463463374607431768211456 + w 3 * 6277101735386680763835789423207666416102355444464034512896 := by
      simp [val, Int.pow_succ]
    rw [e, ← hw]
    simp [updA]
    unfold B51 at *
    omega
  clear w0 w1 w2 w3 hw
  have hdig : ∀ i, i < 32 → w (i / 8) / 256 ^ (i % 8) % 256 = n / 256 ^ i % 256 := fun i hi => by
    rw [val_digit (B := 18446744073709551616) (by decide) hwb (i / 8) (by omega), hwv]
    have e1 : (18446744073709551616 : Int) = 256 ^ (i % 8) * 256 ^ (8 - i % 8) := by rw [← Int.pow_add, show i % 8 + (8 - i % 8) = 8 by omega]; rfl
    have e2 : (18446744073709551616 : Int) ^ (i / 8) = 256 ^ (8 * (i / 8)) := by rw [Int.pow_mul]; rfl
    have hp1 : (0 : Int) < 256 ^ (i % 8) := Int.pow_pos (by decide)
    have hp2 : (0 : Int) < 256 ^ (8 - i % 8) := Int.pow_pos (by decide)
    have hp3 : (0 : Int) < 256 ^ (8 * (i / 8)) := Int.pow_pos (by decide)
    rw [e2, e1, emod_mul_ediv hp1 hp2, Int.ediv_ediv_of_nonneg (by omega), ← Int.pow_add, show 8 * (i / 8) + i % 8 = i by omega]
    refine Int.emod_emod_of_dvd _ ?_
    rw [show 8 - i % 8 = 1 + (7 - i % 8) by omega, Int.pow_add]
    exact Int.dvd_mul_right _ _
  refine ret_loop (fun s => ∃ k : Nat, s.1 = k ∧ k ≤ 32 ∧ s.2.2.1 = w ∧ ∀ i, i < k → s.2.2.2.1 i = n / 256 ^ i % 256) (fun s => 32 - s.1.toNat) ⟨0, rfl, by omega, rfl, fun i hi => by omega⟩ (by simp) ?_
  rintro self ⟨k', d, w', r, ⟨⟩⟩ ⟨k, h1, hk, h2, hr⟩ ih
  dsimp only at h1 h2 hr ih ⊢
  subst h1; subst h2
  refine ret_let (ret_sel (fun hlt => ?_) (fun hge => ?_))
  · have hltN : k < 32 := by have := of_decide_eq_true hlt; omega
    have hg := two_guard (a := (k : Int)) (n := 32) (by omega) (by omega)
    have hg4 := two_guard (a := ((k / 8 : Nat) : Int)) (n := 4) (by omega) (by omega)
    have e1 : IntKind.i64.wrap ((k : Int).tdiv 8) = ((k / 8 : Nat) : Int) := by rw [tdiv8, wrap_i64 (by omega) (by omega)]
    have e2 : IntKind.i64.wrap (8 * (k : Int).tmod 8) = ((8 * (k % 8) : Nat) : Int) := by rw [tmod8, wrap_i64 (by omega) (by omega)]; simp
    have e4 : IntKind.i64.wrap ((k : Int) + 1) = ((k + 1 : Nat) : Int) := by rw [wrap_i64 (by omega) (by omega)]; simp
    have e5 : shrI .u64 (w' (k / 8)) ((8 * (k % 8) : Nat) : Int) = w' (k / 8) / 256 ^ (k % 8) := by rw [shr64 _ _ (by omega), ← pow256]
    refine ret_let ?_
    simp only [e1]
    refine ret_guard hg4 (ret_let (ret_let (ret_let ?_)))
    simp only [e2, Int.toNat_natCast]
    refine ret_guard (decide_eq_true (by omega)) (ret_let (ret_let (ret_guard hg (ret_let (ret_let ?_)))))
    simp only [e4, e5, wrap_u8, hdig k hltN]
    refine ih _ ⟨k + 1, rfl, by omega, rfl, fun i hi => ?_⟩ (by simp; omega)
    dsimp only
    by_cases e : i = k
    · subst e; rw [updA_self]
    · rw [updA_ne _ _ e]; exact hr i (by omega)
  · have ek : k = 32 := by simp at hge; omega
    subst ek
    exact ret_some (KeyOf.of_digits hn0 (by unfold p25519 at hnl; exact Int.lt_trans hnl (by decide)) hr)

theorem field_Same_ret {x y : Nat → Int} {m n : Int} (hx : FE x m) (hy : FE y n) : F_field_Same (x, y) = some (decide (m = n)) := by
  unfold F_field_Same
  simp only [letK_def]
  congr 1
  rw [Bool.eq_iff_iff, eqA_iff, decide_eq_true_iff]
  constructor
  · intro h; rw [← hx.val, ← hy.val]; exact val_congr h
  · intro h; exact val_ext (by decide) hx.dig hy.dig (by rw [hx.val, hy.val, h])

theorem field_Pick_ret (n : Int) (x y : Nat → Int) : F_field_Pick (n, x, y) = some (if n = 1 then y else x) := by
  unfold F_field_Pick
  simp only [letK_def, sel_ite]
  by_cases h : n = 1
  · subst h; rfl
  · simp [h]

end Go.Sx
