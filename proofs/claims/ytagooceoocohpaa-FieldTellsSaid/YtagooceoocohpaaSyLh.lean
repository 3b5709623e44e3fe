/-
  The laws of the field, plain: FieldInverts.
-/
import Derived.Test.YtagooceoocohpaaSyLg
import Derived.Test.YtagooceoocohpaaSyNt
set_option maxRecDepth 100000
set_option linter.unusedVariables false
namespace Go.Sx

abbrev pN : Nat := 57896044618658097711785492504343953926634992332820282019728792003956564819949

theorem invS_cast (k : Nat) : invS (k : Int) = ((k ^ eInv % pN : Nat) : Int) := by
  unfold invS
  rw [Int.natCast_emod, Int.natCast_pow]
  rfl

theorem invS_range (m : Int) : 0 ≤ invS m ∧ invS m < p25519 := by
  unfold invS
  exact ⟨Int.emod_nonneg _ (by decide), Int.emod_lt_of_pos _ (by decide)⟩

theorem invS_mul {m : Int} (h0 : 0 < m) (h1 : m < p25519) : m * invS m % p25519 = 1 := by
  obtain ⟨k, rfl⟩ := toNat_ex (show 0 ≤ m by omega)
  have hk : k % pN ≠ 0 := by rw [Nat.mod_eq_of_lt (by unfold p25519 at h1; unfold pN; omega)]; omega
  have hf := pri_p.fermat hk
  rw [show 57896044618658097711785492504343953926634992332820282019728792003956564819949 - 1 = eInv + 1 by rw [eInv_eq], Nat.pow_succ, Nat.mul_comm] at hf
  rw [invS_cast]
  have e : ((k * (k ^ eInv % pN) % pN : Nat) : Int) = 1 := by rw [Nat.mul_mod, Nat.mod_mod, ← Nat.mul_mod]; rw [hf]; rfl
  rw [Int.natCast_emod, Int.natCast_mul] at e
  exact e

theorem invS_zero : invS 0 = 0 := by
  have := invS_cast 0
  rw [Nat.zero_pow (by rw [eInv_eq]; decide)] at this
  exact this

theorem invS_prod (m n : Int) : invS (m * n % p25519) = invS m * invS n % p25519 := by
  unfold invS
  have e : ∀ (x : Int) (k : Nat), (x % p25519) ^ k % p25519 = x ^ k % p25519 := by
    intro x k
    induction k with
    | zero => rw [Int.pow_zero, Int.pow_zero]
    | succ k ih => rw [Int.pow_succ, Int.mul_emod, ih, Int.emod_emod_of_dvd _ (Int.dvd_refl _), ← Int.mul_emod, ← Int.pow_succ]
  rw [e, Int.mul_pow, Int.mul_emod]

theorem invS_inv {m : Int} (h0 : 0 < m) (h1 : m < p25519) : invS (invS m) = m := by
  have hm := invS_mul h0 h1
  obtain ⟨r0, r1⟩ := invS_range m
  have hi0 : 0 < invS m := by
    rcases Int.lt_or_le 0 (invS m) with h | h
    · exact h
    · have : invS m = 0 := by omega
      rw [this, Int.mul_zero] at hm; exact absurd hm (by decide)
  have h2 := invS_mul hi0 r1
  obtain ⟨s0, s1⟩ := invS_range (invS m)
  have e1 : m * invS m * invS (invS m) % p25519 = invS (invS m) := by
    rw [← mm1, hm, Int.one_mul, Int.emod_eq_of_lt s0 s1]
  have e2 : m * invS m * invS (invS m) % p25519 = m := by
    rw [Int.mul_assoc, ← mm2, h2, Int.mul_one, Int.emod_eq_of_lt (by omega) h1]
  rw [← e1, e2]

theorem field_inverts {a : (Nat → Int) × (Nat → Int)} (h0 : IsBytes 32 a.1) (h1 : IsBytes 32 a.2) : FF_billetlaw01_FieldInverts a = some true := by
  refine Ret.eq ?_
  unfold FF_billetlaw01_FieldInverts F_billetlaw01_FieldInverts
  refine ret_bind (field_Of_ret h0) ?_
  intro x hx
  refine ret_bind (field_Of_ret h1) ?_
  intro y hy
  generalize val 256 32 a.1 % 57896044618658097711785492504343953926634992332820282019728792003956564819968 % p25519 = m at hx
  generalize val 256 32 a.2 % 57896044618658097711785492504343953926634992332820282019728792003956564819968 % p25519 = n at hy
  refine ret_let (ret_let (ret_bind (field_Num_ret (by omega) (by omega)) ?_))
  intro one ho
  refine ret_bind (field_Num_ret (by omega) (by omega)) ?_
  intro none hn
  refine ret_let (ret_let (ret_bind (field_Inv_ret hx) ?_))
  intro i hi
  refine ret_let (ret_bindE (Same2 hx hn) (ret_sel (fun h => ?_) (fun h => ?_)))
  · have hm : m = 0 := of_decide_eq_true h
    subst hm
    rw [invS_zero] at hi
    refine ret_bindE (Same2 hi hn) (ret_selT (decide_eq_true rfl) ?_)
    exact ret_bindE wakes01 (ret_some rfl)
  · have hm : m ≠ 0 := of_decide_eq_false h
    have hm0 : 0 < m := by have := hx.nonneg; omega
    have hml := hx.lt
    refine ret_let (ret_bind (Mul2 hx hi) ?_)
    intro r hr
    rw [invS_mul hm0 hml] at hr
    refine ret_bindE (Same2 hr ho) (ret_selT (decide_eq_true rfl) ?_)
    refine ret_bind (field_Inv_ret hi) ?_
    intro r hr
    rw [invS_inv hm0 hml] at hr
    refine ret_bindE (Same2 hr hx) (ret_selT (decide_eq_true rfl) ?_)
    refine ret_let (ret_bind (Mul2 hx hy) ?_)
    intro r hr
    refine ret_bind (field_Inv_ret hr) ?_
    intro s hs
    rw [invS_prod] at hs
    refine ret_bind (field_Inv_ret hy) ?_
    intro j hj
    refine ret_let (ret_bind (Mul2 hi hj) ?_)
    intro t ht
    refine ret_bindE (Same2 hs ht) (ret_selT (decide_eq_true rfl) ?_)
    exact ret_bindE wakes01 (ret_some rfl)

end Go.Sx
