/-
  The laws of the field, plain: FieldRing, FieldBytes, FieldSums.
-/
import Derived.Test.YtagooceoocohpaaSyLf
import Derived.Test.YtagooceoocohpaaSyNt
set_option maxRecDepth 100000
set_option linter.unusedVariables false
namespace Go.Sx

theorem ret_selT {R : Type} {b : Bool} {x y : Option R} {Q : R → Prop} (hb : b = true) (h : Ret x Q) : Ret (sel b x y) Q := by subst hb; exact h
theorem ret_selF {R : Type} {b : Bool} {x y : Option R} {Q : R → Prop} (hb : b = false) (h : Ret y Q) : Ret (sel b x y) Q := by subst hb; exact h
theorem ret_bindE {α R : Type} {m : Option α} {a : α} {k : α → Option R} {Q : R → Prop} (h : m = some a) (h' : Ret (k a) Q) : Ret (bindK m k) Q := by subst h; exact h'

theorem am1 (a b : Int) : (a % p25519 + b) % p25519 = (a + b) % p25519 := by rw [Int.add_emod, Int.emod_emod_of_dvd _ (Int.dvd_refl _), ← Int.add_emod]
theorem am2 (a b : Int) : (a + b % p25519) % p25519 = (a + b) % p25519 := by rw [Int.add_emod, Int.emod_emod_of_dvd _ (Int.dvd_refl _), ← Int.add_emod]
theorem mm1 (a b : Int) : (a % p25519 * b) % p25519 = (a * b) % p25519 := by rw [Int.mul_emod, Int.emod_emod_of_dvd _ (Int.dvd_refl _), ← Int.mul_emod]
theorem mm2 (a b : Int) : (a * (b % p25519)) % p25519 = (a * b) % p25519 := by rw [Int.mul_emod, Int.emod_emod_of_dvd _ (Int.dvd_refl _), ← Int.mul_emod]

theorem Add2 {x y : Nat → Int} {m n : Int} (hx : FE x m) (hy : FE y n) : Ret (FF_field_Add [x, y]) fun r => FE r ((m + n) % p25519) := by
  have := field_Add_ret (xs := [x, y]) (by intro z hz; simp at hz; rcases hz with rfl | rfl; exact hx.isFE; exact hy.isFE) (by simp)
  simp only [sumS, List.foldl, hx.fv, hy.fv, Int.zero_add, am1] at this
  exact this

theorem Add3 {x y z : Nat → Int} {m n k : Int} (hx : FE x m) (hy : FE y n) (hz : FE z k) : Ret (FF_field_Add [x, y, z]) fun r => FE r ((m + n + k) % p25519) := by
  have := field_Add_ret (xs := [x, y, z]) (by intro u hu; simp at hu; rcases hu with rfl | rfl | rfl; exact hx.isFE; exact hy.isFE; exact hz.isFE) (by simp)
  simp only [sumS, List.foldl, hx.fv, hy.fv, hz.fv, Int.zero_add, am1] at this
  exact this

theorem Mul2 {x y : Nat → Int} {m n : Int} (hx : FE x m) (hy : FE y n) : Ret (FF_field_Mul [x, y]) fun r => FE r (m * n % p25519) := by
  have := field_Mul_ret (xs := [x, y]) (by intro z hz; simp at hz; rcases hz with rfl | rfl; exact hx.isFE; exact hy.isFE) (by simp)
  simp only [prodS, List.foldl, hx.fv, hy.fv, Int.one_mul, mm1] at this
  exact this

theorem Mul3 {x y z : Nat → Int} {m n k : Int} (hx : FE x m) (hy : FE y n) (hz : FE z k) : Ret (FF_field_Mul [x, y, z]) fun r => FE r (m * n * k % p25519) := by
  have := field_Mul_ret (xs := [x, y, z]) (by intro u hu; simp at hu; rcases hu with rfl | rfl | rfl; exact hx.isFE; exact hy.isFE; exact hz.isFE) (by simp)
  simp only [prodS, List.foldl, hx.fv, hy.fv, hz.fv, Int.one_mul, mm1] at this
  exact this

theorem Same2 {x y : Nat → Int} {m n : Int} (hx : FE x m) (hy : FE y n) : FF_field_Same (x, y) = some (decide (m = n)) := field_Same_ret hx hy

/-- Bytes that are written out. -/
theorem key_lit {r : Nat → Int} {n : Int} (h : KeyOf r n) {f : Nat → Int} (hf : KeyOf f n) : eqA 32 r f = true := eqA_iff.2 (KeyOf.ext h hf)

theorem KeyOf.small {n : Int} (h0 : 0 ≤ n) (h1 : n < 256) : KeyOf (updA (fun _ => 0) 0 n) n := by
  refine ⟨fun i hi => ?_, ?_⟩
  · unfold updA; split
    · omega
    · exact ⟨Int.le_refl 0, (by decide : (0 : Int) < 256)⟩
  · rw [val_upd (by omega), val_pad (n := 0) (by omega) fun i _ _ => rfl]; simp [val]

theorem invS_nat (m k : Nat) (h : pwm m 57896044618658097711785492504343953926634992332820282019728792003956564819949 255 57896044618658097711785492504343953926634992332820282019728792003956564819947 = k) : invS m = k := by
  have e := pwm_eq m 57896044618658097711785492504343953926634992332820282019728792003956564819949 255 eInv (by rw [eInv_eq]; decide +kernel)
  rw [eInv_eq] at e
  rw [h, ← eInv_eq] at e
  rw [e]
  unfold invS
  rw [Int.natCast_emod, Int.natCast_pow]
  rfl

theorem invS_of (m k : Nat) (h : m * k % 57896044618658097711785492504343953926634992332820282019728792003956564819949 = 1) (e : invS ((m : Nat) : Int) = k) : (m : Int) * invS ((m : Nat) : Int) % p25519 = 1 := by
  rw [e]
  have h2 : ((m * k % 57896044618658097711785492504343953926634992332820282019728792003956564819949 : Nat) : Int) = 1 := by rw [h]; rfl
  rw [Int.natCast_emod, Int.natCast_mul] at h2
  exact h2

theorem invS_7 : 7 * invS 7 % p25519 = 1 := by
  have h : 7 * pwm 7 57896044618658097711785492504343953926634992332820282019728792003956564819949 255 57896044618658097711785492504343953926634992332820282019728792003956564819947 % 57896044618658097711785492504343953926634992332820282019728792003956564819949 = 1 := by decide +kernel
  have h7 := invS_of 7 _ h (invS_nat 7 _ (Eq.refl _))
  have e7 : ((7:Nat):Int) = 7 := rfl
  rw [e7] at h7
  exact h7

theorem wakes01 : FF_billetlaw01_wakes () = some true := by
  refine Ret.eq ?_
  unfold FF_billetlaw01_wakes F_billetlaw01_wakes
  refine ret_bind (field_Num_ret (by omega) (by omega)) ?_
  intro x hx
  refine ret_bind (field_Num_ret (by omega) (by omega)) ?_
  intro y hy
  refine ret_let (ret_let (ret_let (ret_bind (Add2 hx hy) ?_)))
  intro s hs
  refine ret_bind (field_Key_ret hs) ?_
  intro k hk
  refine ret_let (ret_let (ret_selT (key_lit hk (KeyOf.small (by omega) (by omega))) ?_))
  refine ret_let (ret_bind (Mul2 hx hy) ?_)
  intro s hs
  refine ret_bind (field_Key_ret hs) ?_
  intro k hk
  refine ret_let (ret_let (ret_selT (key_lit hk (KeyOf.small (by omega) (by omega))) ?_))
  refine ret_bind (field_Sub_ret hx hy) ?_
  intro s hs
  refine ret_bind (field_Key_ret hs) ?_
  intro k hk
  refine ret_let (ret_let (ret_selT (key_lit hk (KeyOf.small (by omega) (by omega))) ?_))
  refine ret_let (ret_bind (field_Of_ret (a := updA (fun _ => 0) 0 7) (KeyOf.small (by omega) (by omega)).1) ?_)
  intro s hs
  rw [(KeyOf.small (n := 7) (by omega) (by omega)).2] at hs
  refine ret_bindE (Same2 hx hs) (ret_selT (by decide) ?_)
  refine ret_bindE (Same2 hx hy) (ret_let (ret_selT (by decide) ?_))
  refine ret_bind (field_Inv_ret hx) ?_
  intro i hi
  refine ret_let (ret_bind (Mul2 hx hi) ?_)
  intro s hs
  rw [invS_7] at hs
  refine ret_bind (field_Num_ret (by omega) (by omega)) ?_
  intro one h1
  refine ret_bindE (Same2 hs h1) (ret_selT (by decide) ?_)
  refine ret_bindE (field_Pick_ret 1 x y) ?_
  refine ret_bind (field_Key_ret (l := if (1 : Int) = 1 then y else x) hy) ?_
  intro k hk
  refine ret_let (ret_let (ret_some ?_))
  exact key_lit hk (KeyOf.small (by omega) (by omega))

theorem field_ring {a : (Nat → Int) × (Nat → Int) × (Nat → Int)} (h0 : IsBytes 32 a.1) (h1 : IsBytes 32 a.2.1) (h2 : IsBytes 32 a.2.2) : FF_billetlaw01_FieldRing a = some true := by
  refine Ret.eq ?_
  unfold FF_billetlaw01_FieldRing F_billetlaw01_FieldRing
  refine ret_bind (field_Of_ret h0) ?_
  intro x hx
  refine ret_bind (field_Of_ret h1) ?_
  intro y hy
  refine ret_bind (field_Of_ret h2) ?_
  intro z hz
  generalize val 256 32 a.1 % 57896044618658097711785492504343953926634992332820282019728792003956564819968 % p25519 = m at hx
  generalize val 256 32 a.2.1 % 57896044618658097711785492504343953926634992332820282019728792003956564819968 % p25519 = n at hy
  generalize val 256 32 a.2.2 % 57896044618658097711785492504343953926634992332820282019728792003956564819968 % p25519 = k at hz
  refine ret_let (ret_let (ret_let (ret_let (ret_bind (Add2 hx hy) ?_))))
  intro r1 f1
  refine ret_let (ret_bind (Add2 hy hx) ?_)
  intro r2 f2
  refine ret_bindE (Same2 f1 f2) (ret_selT (decide_eq_true (by rw [Int.add_comm])) ?_)
  refine ret_let (ret_bind (Mul2 hx hy) ?_)
  intro r1 f1
  refine ret_let (ret_bind (Mul2 hy hx) ?_)
  intro r2 f2
  refine ret_bindE (Same2 f1 f2) (ret_selT (decide_eq_true (by rw [Int.mul_comm])) ?_)
  refine ret_let (ret_bind (Add2 hx hy) ?_)
  intro r1 f1
  refine ret_let (ret_bind (Add2 f1 hz) ?_)
  intro r2 f2
  refine ret_let (ret_bind (Add2 hy hz) ?_)
  intro r3 f3
  refine ret_let (ret_bind (Add2 hx f3) ?_)
  intro r4 f4
  refine ret_bindE (Same2 f2 f4) (ret_selT (decide_eq_true (by rw [am1, am2, Int.add_assoc])) ?_)
  refine ret_let (ret_bind (Mul2 hx hy) ?_)
  intro r1 f1
  refine ret_let (ret_bind (Mul2 f1 hz) ?_)
  intro r2 f2
  refine ret_let (ret_bind (Mul2 hy hz) ?_)
  intro r3 f3
  refine ret_let (ret_bind (Mul2 hx f3) ?_)
  intro r4 f4
  refine ret_bindE (Same2 f2 f4) (ret_selT (decide_eq_true (by rw [mm1, mm2, Int.mul_assoc])) ?_)
  refine ret_let (ret_bind (Add2 hy hz) ?_)
  intro r1 f1
  refine ret_let (ret_bind (Mul2 hx f1) ?_)
  intro r2 f2
  refine ret_let (ret_bind (Mul2 hx hy) ?_)
  intro r3 f3
  refine ret_let (ret_bind (Mul2 hx hz) ?_)
  intro r4 f4
  refine ret_let (ret_bind (Add2 f3 f4) ?_)
  intro r5 f5
  refine ret_bindE (Same2 f2 f5) (ret_selT (decide_eq_true (by rw [mm2, am1, am2, Int.mul_add])) ?_)
  refine ret_bind (field_Sub_ret hx hy) ?_
  intro r1 f1
  refine ret_let (ret_bind (Add2 f1 hy) ?_)
  intro r2 f2
  refine ret_bindE (Same2 f2 hx) (ret_selT (decide_eq_true (by rw [am1, Int.sub_add_cancel]; exact Int.emod_eq_of_lt hx.nonneg hx.lt)) ?_)
  refine ret_let (ret_bind (Add3 hx hy hz) ?_)
  intro r1 f1
  refine ret_let (ret_bind (Add2 hy hz) ?_)
  intro r2 f2
  refine ret_let (ret_bind (Add2 hx f2) ?_)
  intro r3 f3
  refine ret_bindE (Same2 f1 f3) (ret_selT (decide_eq_true (by rw [am2, Int.add_assoc])) ?_)
  refine ret_let (ret_bind (Mul3 hx hy hz) ?_)
  intro r1 f1
  refine ret_let (ret_bind (Mul2 hy hz) ?_)
  intro r2 f2
  refine ret_let (ret_bind (Mul2 hx f2) ?_)
  intro r3 f3
  refine ret_bindE (Same2 f1 f3) (ret_selT (decide_eq_true (by rw [mm2, Int.mul_assoc])) ?_)
  exact ret_bindE wakes01 (ret_some rfl)


theorem field_bytes {a : (Nat → Int) × (Nat → Int)} (h0 : IsBytes 32 a.1) (h1 : IsBytes 32 a.2) : FF_billetlaw01_FieldBytes a = some true := by
  refine Ret.eq ?_
  unfold FF_billetlaw01_FieldBytes F_billetlaw01_FieldBytes
  refine ret_bind (field_Of_ret h0) ?_
  intro x hx
  refine ret_bind (field_Of_ret h1) ?_
  intro y hy
  generalize hm : val 256 32 a.1 % 57896044618658097711785492504343953926634992332820282019728792003956564819968 % p25519 = m at hx
  generalize val 256 32 a.2 % 57896044618658097711785492504343953926634992332820282019728792003956564819968 % p25519 = n at hy
  refine ret_let (ret_let (ret_bind (field_Key_ret hx) ?_))
  intro k hk
  have b31 := h0 31 (by omega)
  have hx31 : xorI .u8 (a.1 31) 128 = if a.1 31 < 128 then a.1 31 + 128 else a.1 31 - 128 := by
    obtain ⟨b, hb⟩ := toNat_ex b31.1
    have hb2 : b < 256 := by omega
    rw [hb, show (128 : Int) = ((128 : Nat) : Int) from rfl, xorI_nat .u8 rfl b 128 (by simp only [IntKind.bits]; omega) (by decide)]
    have key : ∀ b, b < 256 → b ^^^ 128 = if b < 128 then b + 128 else b - 128 := by decide +kernel
    rw [key b hb2]
    split <;> split <;> omega
  refine ret_let (ret_let (ret_let (ret_let (ret_let ?_))))
  rw [hx31]
  generalize ht : updA a.1 31 (if a.1 31 < 128 then a.1 31 + 128 else a.1 31 - 128) = t
  have htb : IsBytes 32 t := fun i hi => by
    rw [← ht]
    by_cases e : i = 31
    · subst e; rw [updA_self]; split <;> omega
    · rw [updA_ne _ _ e]; exact h0 i hi
  have htv : val 256 32 t % 57896044618658097711785492504343953926634992332820282019728792003956564819968 % p25519 = m := by
    rw [← hm, ← ht, val_upd (by omega)]
    have p31 : (256 : Int) ^ 31 = 452312848583266388373324160190187140051835877600158453279131187530910662656 := by decide
    rw [p31]
    congr 1
    split <;> omega
  -- the number's bytes
  have hm0 := hx.nonneg
  have hml := hx.lt
  have k31 : k 31 < 128 := by
    have e := val_digit (B := 256) (by decide) hk.1 31 (by omega)
    have p31 : (256 : Int) ^ 31 = 452312848583266388373324160190187140051835877600158453279131187530910662656 := by decide
    rw [hk.2, p31] at e
    unfold p25519 at hml
    omega
  have hb : ∀ i, i < 32 → 0 ≤ k i ∧ k i < 256 := hk.1
  refine ret_bind (M := fun u => u.1 = (decide (k 31 < 127) || decide (k 0 < 237))) ?_ ?_
  · refine ret_let (ret_let (ret_sel (fun h => ret_some (by simp [h])) (fun h => ret_let (ret_let (ret_some (by simp [h]))))))
  rintro ⟨b0, ⟨⟩⟩ hb0
  dsimp only at hb0
  refine ret_loop (fun s => ∃ j : Nat, s.2.1 = j ∧ 1 ≤ j ∧ j ≤ 31 ∧ s.2.2.1 = x ∧ s.2.2.2.1 = y ∧ s.2.2.2.2.1 = k ∧ s.2.2.2.2.2.1 = t ∧ (s.1 = true ↔ (k 31 < 127 ∨ k 0 < 237 ∨ ∃ i, 1 ≤ i ∧ i < j ∧ k i < 255))) (fun s => 31 - s.2.1.toNat)
    ⟨1, rfl, by omega, by omega, rfl, rfl, rfl, rfl, ?_⟩ (by simp) ?_
  · dsimp only
    rw [hb0]
    simp
    constructor
    · rintro (h | h); exact .inl h; exact .inr (.inl h)
    · rintro (h | h | ⟨i, h1, h2, _⟩); exact .inl h; exact .inr h; omega
  rintro self ⟨b, j', x', y', k', t', ⟨⟩⟩ ⟨j, g1, j1, j31, g2, g3, g4, g5, hbel⟩ ih
  dsimp only at g1 g2 g3 g4 g5 hbel ih ⊢
  subst g1; subst g2; subst g3; subst g4; subst g5
  refine ret_let (ret_sel (fun hlt => ?_) (fun hge => ?_))
  · have hj : j < 31 := by have := of_decide_eq_true hlt; omega
    have hg := two_guard (a := (j : Int)) (n := 32) (by omega) (by omega)
    have e1 : IntKind.i64.wrap ((j : Int) + 1) = ((j + 1 : Nat) : Int) := by rw [wrap_i64 (by omega) (by omega)]; simp
    refine ret_bind (M := fun u => u.1 = (b || decide (k' j < 255))) ?_ ?_
    · refine ret_sel (fun h => ret_some (by simp [h])) (fun h => ret_guard hg (ret_let (ret_let (ret_some (by simp [h])))))
    rintro ⟨b', ⟨⟩⟩ hb'
    dsimp only at hb'
    refine ret_let ?_
    simp only [e1]
    refine ih _ ⟨j + 1, rfl, by omega, by omega, rfl, rfl, rfl, rfl, ?_⟩ (by simp; omega)
    dsimp only
    rw [hb', Bool.or_eq_true, decide_eq_true_iff, hbel]
    constructor
    · rintro ((h | h | ⟨i, h1, h2, h3⟩) | h)
      · exact .inl h
      · exact .inr (.inl h)
      · exact .inr (.inr ⟨i, h1, by omega, h3⟩)
      · exact .inr (.inr ⟨j, by omega, by omega, h⟩)
    · rintro (h | h | ⟨i, h1, h2, h3⟩)
      · exact .inl (.inl h)
      · exact .inl (.inr (.inl h))
      · by_cases e : i = j
        · subst e; exact .inr h3
        · exact .inl (.inr (.inr ⟨i, h1, by omega, h3⟩))
  · have hj : j = 31 := by have := of_decide_eq_false hge; omega
    subst hj
    have hbt : b = true := by
      rw [hbel]
      -- else the number is the prime at least
      rcases Int.lt_or_le (k' 31) 127 with h | h
      · exact .inl h
      rcases Int.lt_or_le (k' 0) 237 with h' | h'
      · exact .inr (.inl h')
      rcases Classical.em (∃ i, 1 ≤ i ∧ i < 31 ∧ k' i < 255) with h'' | h''
      · exact .inr (.inr h'')
      exfalso
      have hall : ∀ i, 1 ≤ i → i < 31 → k' i = 255 := fun i h1 h2 => by
        have := hb i (by omega)
        rcases Int.lt_or_le (k' i) 255 with h | h
        · exact absurd ⟨i, h1, h2, h⟩ h''
        · omega
      have e : val 256 32 k' = val 256 32 (updA (updA (fun _ => 255) 0 (k' 0)) 31 (k' 31)) := val_congr fun i hi => by
        by_cases e : i = 31
        · subst e; rw [updA_self]
        · rw [updA_ne _ _ e]
          by_cases e' : i = 0
          · subst e'; rw [updA_self]
          · rw [updA_ne _ _ e']; exact hall i (by omega) (by omega)
      have hv := hk.2
      rw [e, val_upd (by omega), val_upd (by omega), updA_ne _ _ (by decide)] at hv
      have c : val 256 32 (fun _ => 255) = 115792089237316195423570985008687907853269984665640564039457584007913129639935 := by decide
      have p31 : (256 : Int) ^ 31 = 452312848583266388373324160190187140051835877600158453279131187530910662656 := by decide
      rw [c, p31, Int.pow_zero] at hv
      unfold p25519 at hml
      omega
    have hfk : val 256 32 k' % 57896044618658097711785492504343953926634992332820282019728792003956564819968 % p25519 = m := by
      rw [hk.2, Int.emod_eq_of_lt hm0 (by unfold p25519 at hml; omega), Int.emod_eq_of_lt hm0 hml]
    refine ret_let (ret_let (ret_selT (decide_eq_true k31) (ret_selT hbt ?_)))
    refine ret_bind (field_Of_ret hk.1) ?_
    intro z hz
    rw [hfk] at hz
    refine ret_bindE (Same2 hz hx) (ret_selT (decide_eq_true rfl) ?_)
    refine ret_bind (field_Of_ret htb) ?_
    intro z hz
    rw [htv] at hz
    refine ret_bindE (Same2 hz hx) (ret_selT (decide_eq_true rfl) ?_)
    refine ret_bindE (Same2 hx hy) (ret_bind (field_Key_ret hy) ?_)
    intro l hl
    refine ret_let (ret_let (ret_selT ?_ ?_))
    · rw [beq_iff_eq, Bool.eq_iff_iff, decide_eq_true_iff, eqA_iff]
      constructor
      · intro h; subst h; exact KeyOf.ext hk hl
      · intro h; rw [← hk.2, ← hl.2]; exact val_congr h
    · refine ret_let (ret_bind (field_Num_ret (by omega) (by omega)) ?_)
      intro z hz
      refine ret_bindE (Same2 IsFE.dflt hz) (ret_selT (by decide) ?_)
      exact ret_bindE wakes01 (ret_some rfl)

theorem snoc_take {α : Type} (xs : List α) (d : α) (k : Nat) (h : k < xs.length) : xs.take (k + 1) = xs.take k ++ [xs.getD k d] := by
  rw [List.take_succ_eq_append_getElem h]
  simp [List.getD, List.getElem?_eq_getElem h]

def ofB (a : Nat → Int) : Int := val 256 32 a % 57896044618658097711785492504343953926634992332820282019728792003956564819968 % p25519

theorem field_sums {l : List (Nat → Int)} (hl : ∀ a ∈ l, IsBytes 32 a) : FF_billetlaw01_FieldSums l = some true := by
  refine Ret.eq ?_
  unfold FF_billetlaw01_FieldSums F_billetlaw01_FieldSums
  refine ret_let (ret_let (ret_sel (fun h => ret_bindE wakes01 (ret_some rfl)) (fun h => ?_)))
  have hlen : l.length ≤ 40 := by have := of_decide_eq_false h; omega
  refine ret_let (ret_bind (ref_Small_ret (by omega) (by omega)) ?_)
  intro one h1
  refine ret_let (ret_let ?_)
  refine ret_loop (fun s => ∃ k : Nat, s.1 = k ∧ k ≤ l.length ∧ s.2.2.1 = l ∧ s.2.1.length = k ∧ (∀ x ∈ s.2.1, IsFE x) ∧ ∃ m n, FR s.2.2.2.1 m ∧ FR s.2.2.2.2.1 n ∧ sumS s.2.1 = m ∧ prodS s.2.1 = n) (fun s => l.length - s.1.toNat)
    ⟨0, rfl, by omega, rfl, rfl, fun x hx => (nomatch hx), 0, 1, ⟨fun i hi => by simp; decide, by rw [val_pad (n := 0) (by omega) fun i _ _ => rfl]; rfl, by decide⟩, h1, rfl, rfl⟩ (by dsimp only; omega) ?_
  rintro self ⟨k', xs, l', s, p, ⟨⟩⟩ ⟨k, g1, hk, g2, g3, hxs, m, n, hm, hn, es, ep⟩ ih
  dsimp only at g1 g2 g3 hxs hm hn es ep ih ⊢
  subst g1; subst g2; subst g3
  refine ret_let (ret_let (ret_sel (fun hlt => ?_) (fun hge => ?_)))
  · have hk' : xs.length < l'.length := by have := of_decide_eq_true hlt; omega
    have hg := two_guard (a := (xs.length : Int)) (n := (l'.length : Int)) (by omega) (by omega)
    have hg2 : decide ((xs.length : Int).toNat < l'.length) = true := decide_eq_true (by simpa using hk')
    have hb := hl _ (getD_mem l' xs.length (fun _ => 0) hk')
    have e1 : IntKind.i64.wrap ((xs.length : Int) + 1) = ((xs.length + 1 : Nat) : Int) := by rw [wrap_i64 (by omega) (by omega)]; simp
    refine ret_guard hg (ret_guard hg2 (ret_let ?_))
    simp only [Int.toNat_natCast]
    refine ret_bind (field_Of_ret hb) ?_
    intro x hx
    refine ret_let (ret_guard (by simp; omega) (ret_let (ret_guard hg (ret_guard hg2 (ret_let ?_)))))
    refine ret_bind (ref_Of_ret hb) ?_
    intro r hr
    refine ret_bind (ref_Add_ret hm hr) ?_
    intro s' hs'
    refine ret_guard hg (ret_guard hg2 (ret_let ?_))
    refine ret_bind (ref_Of_ret hb) ?_
    intro r2 hr2
    refine ret_bind (ref_Mul_ret hn hr2) ?_
    intro p' hp'
    refine ret_let ?_
    simp only [e1]
    refine ih _ ⟨xs.length + 1, rfl, by omega, rfl, by simp, fun z hz => ?_, _, _, hs', hp', ?_, ?_⟩ (by simp; omega)
    · dsimp only at hz
      rcases List.mem_append.1 hz with h | h
      · exact hxs z h
      · simp at h; subst h; exact hx.isFE
    · simp only [sumS, List.foldl_append, List.foldl, hx.fv]
      simp only [sumS] at es; rw [es]
    · simp only [prodS, List.foldl_append, List.foldl, hx.fv]
      simp only [prodS] at ep; rw [ep]
  · have hk' : xs.length = l'.length := by have := of_decide_eq_false hge; omega
    refine ret_bind (field_Add_ret hxs (by omega)) ?_
    intro a ha
    rw [es] at ha
    refine ret_bind (field_Key_ret ha) ?_
    intro ka hka
    refine ret_bind (ref_Key_ret hm) ?_
    intro kr hkr
    refine ret_let (ret_selT (key_lit hka hkr) ?_)
    refine ret_bind (field_Mul_ret hxs (by omega)) ?_
    intro a ha
    rw [ep] at ha
    refine ret_bind (field_Key_ret ha) ?_
    intro ka hka
    refine ret_bind (ref_Key_ret hn) ?_
    intro kr hkr
    refine ret_let (ret_selT (key_lit hka hkr) ?_)
    exact ret_bindE wakes01 (ret_some rfl)

end Go.Sx
