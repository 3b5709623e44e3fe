/-
  Functions of the field, continued: products.
-/
import Derived.Test.YtagooceoocohpaaSyFld
import Derived.Test.YtagooceoocohpaaSyW
set_option maxRecDepth 100000
set_option linter.unusedVariables false
namespace Go.Sx

theorem mul_bd {x y a b : Int} (hx0 : 0 ≤ x) (hx : x ≤ a) (hy0 : 0 ≤ y) (hy : y ≤ b) : 0 ≤ x * y ∧ x * y ≤ a * b :=
  ⟨Int.mul_nonneg hx0 hy0, Int.le_trans (Int.mul_le_mul_of_nonneg_right hx hy0) (Int.mul_le_mul_of_nonneg_left hy (by omega))⟩

theorem Mul64_ret {x y : Int} (hx0 : 0 ≤ x) (hx : x < 18446744073709551616) (hy0 : 0 ≤ y) (hy : y < 18446744073709551616) :
    Ret (F_math_bits_Mul64 (x, y)) fun r => (0 ≤ r.1 ∧ r.1 < 18446744073709551616) ∧ (0 ≤ r.2 ∧ r.2 < 18446744073709551616) ∧ r.1 * 18446744073709551616 + r.2 = x * y := by
  unfold F_math_bits_Mul64
  have ax := andI_u64 32 (x := x) (m := 4294967295) (by decide) (by decide) hx0 hx
  have ay := andI_u64 32 (x := y) (m := 4294967295) (by decide) (by decide) hy0 hy
  have sh : ∀ z, shrI .u64 z 32 = z / 4294967296 := fun z => shr64 z 32 (by omega)
  rw [show (2 : Int) ^ 32 = 4294967296 from rfl] at ax ay
  repeat (with_reducible refine ret_let ?_)
  refine ret_some ?_
  simp only [ax, ay, sh]
  obtain ⟨x0, hx0e⟩ : ∃ t, x % 4294967296 = t := ⟨_, rfl⟩
  obtain ⟨x1, hx1e⟩ : ∃ t, x / 4294967296 = t := ⟨_, rfl⟩
  obtain ⟨y0, hy0e⟩ : ∃ t, y % 4294967296 = t := ⟨_, rfl⟩
  obtain ⟨y1, hy1e⟩ : ∃ t, y / 4294967296 = t := ⟨_, rfl⟩
  rw [hx0e, hx1e, hy0e, hy1e]
  have ex : x = x1 * 4294967296 + x0 := by omega
  have ey : y = y1 * 4294967296 + y0 := by omega
  have b1 : 0 ≤ x0 ∧ x0 ≤ 4294967295 := by omega
  have b2 : 0 ≤ x1 ∧ x1 ≤ 4294967295 := by omega
  have b3 : 0 ≤ y0 ∧ y0 ≤ 4294967295 := by omega
  have b4 : 0 ≤ y1 ∧ y1 ≤ 4294967295 := by omega
  have m1 := mul_bd b1.1 b1.2 b3.1 b3.2
  have m2 := mul_bd b2.1 b2.2 b3.1 b3.2
  have m3 := mul_bd b1.1 b1.2 b4.1 b4.2
  have m4 := mul_bd b2.1 b2.2 b4.1 b4.2
  have hxy : x * y = x1 * y1 * 18446744073709551616 + (x1 * y0 + x0 * y1) * 4294967296 + x0 * y0 := by
    rw [ex, ey, Int.add_mul, Int.mul_add, Int.mul_add]
    have e1 : x1 * 4294967296 * (y1 * 4294967296) = x1 * y1 * 18446744073709551616 := by
      rw [show (18446744073709551616 : Int) = 4294967296 * 4294967296 from rfl]; simp only [Int.mul_assoc, Int.mul_comm, Int.mul_left_comm]
    have e2 : x1 * 4294967296 * y0 = x1 * y0 * 4294967296 := Int.mul_right_comm _ _ _
    have e3 : x0 * (y1 * 4294967296) = x0 * y1 * 4294967296 := by rw [Int.mul_assoc]
    rw [e1, e2, e3]; omega
  have hr : 0 ≤ x * y ∧ x * y ≤ 18446744073709551615 * 18446744073709551615 := mul_bd hx0 (by omega) hy0 (by omega)
  rw [hxy] at hr ⊢
  clear hxy ex ey hx0e hx1e hy0e hy1e
  generalize x0 * y0 = a at *
  generalize x1 * y0 = b at *
  generalize x0 * y1 = c at *
  generalize x1 * y1 = d at *
  have w1 : IntKind.u64.wrap a = a := wrap_u64_id (by omega) (by omega)
  have w2 : IntKind.u64.wrap b = b := wrap_u64_id (by omega) (by omega)
  have w3 : IntKind.u64.wrap c = c := wrap_u64_id (by omega) (by omega)
  have w4 : IntKind.u64.wrap d = d := wrap_u64_id (by omega) (by omega)
  have w5 : IntKind.u64.wrap (b + a / 4294967296) = b + a / 4294967296 := wrap_u64_id (by omega) (by omega)
  have at5 := andI_u64 32 (x := b + a / 4294967296) (m := 4294967295) (by decide) (by decide) (by omega) (by omega)
  rw [show (2 : Int) ^ 32 = 4294967296 from rfl] at at5
  simp only [w1, w2, w3, w4, w5, at5]
  have w6 : IntKind.u64.wrap ((b + a / 4294967296) % 4294967296 + c) = (b + a / 4294967296) % 4294967296 + c := wrap_u64_id (by omega) (by omega)
  have w7 : IntKind.u64.wrap (d + (b + a / 4294967296) / 4294967296) = d + (b + a / 4294967296) / 4294967296 := wrap_u64_id (by omega) (by omega)
  simp only [w6, w7]
  simp only [wrap_u64]
  omega

theorem add64_ret {x y c : Int} (hx0 : 0 ≤ x) (hx : x < 18446744073709551616) (hy0 : 0 ≤ y) (hy : y < 18446744073709551616) (hc : c = 0) :
    Ret (add64 (x, y, c)) fun r => (0 ≤ r.1 ∧ r.1 < 18446744073709551616) ∧ (0 ≤ r.2 ∧ r.2 ≤ 1) ∧ r.2 * 18446744073709551616 + r.1 = x + y := by
  subst hc
  refine ret_guard (decide_eq_true (by simp)) (ret_some ?_)
  simp only
  obtain ⟨a, rfl⟩ := toNat_ex hx0
  obtain ⟨b, rfl⟩ := toNat_ex hy0
  simp
  omega

/-! ### The product -/

def Acc (hi lo : Nat → Int) (t : Nat) : Int := lo t + 18446744073709551616 * hi t

structure AccI (hi lo : Nat → Int) (x y : Nat → Int) (i k : Nat) : Prop where
  hi0 : ∀ t, t < 5 → 0 ≤ hi t
  lo0 : ∀ t, t < 5 → 0 ≤ lo t ∧ lo t < 18446744073709551616
  bd : ∀ t, t < 5 → Acc hi lo t ≤ (5 * i + k) * 162259276829213363391578010288128
  eq : ∃ q, val B51 5 (Acc hi lo) + q * p25519 = val B51 i x * val B51 5 y + x i * B51 ^ i * val B51 k y

theorem Acc_upd (hi lo : Nat → Int) (t : Nat) (h l : Int) : Acc (updA hi t h) (updA lo t l) = updA (Acc hi lo) t (l + 18446744073709551616 * h) := by
  funext j; unfold Acc updA; split <;> rfl

theorem AccI.step {hi lo x y : Nat → Int} {i k at_ : Nat} {f h l lo' c : Int} (hI : AccI hi lo x y i k) (hx : ∀ t, t < 5 → 0 ≤ x t ∧ x t < B51) (hy : ∀ t, t < 5 → 0 ≤ y t ∧ y t < B51) (hi5 : i < 5) (hk : k < 5)
    (hat : (i + k < 5 ∧ at_ = i + k ∧ f = x i) ∨ (5 ≤ i + k ∧ at_ = i + k - 5 ∧ f = x i * 19)) (hhl : (0 ≤ h ∧ h < 18446744073709551616) ∧ (0 ≤ l ∧ l < 18446744073709551616) ∧ h * 18446744073709551616 + l = f * y k)
    (hlc : (0 ≤ lo' ∧ lo' < 18446744073709551616) ∧ (0 ≤ c ∧ c ≤ 1) ∧ c * 18446744073709551616 + lo' = lo at_ + l) :
    at_ < 5 ∧ h + c < 18446744073709551616 ∧ hi at_ + (h + c) < 18446744073709551616 ∧ AccI (updA hi at_ (hi at_ + (h + c))) (updA lo at_ lo') x y i (k + 1) := by
  have hat5 : at_ < 5 := by omega
  have h1 := hI.hi0 at_ hat5
  have h2 := hI.lo0 at_ hat5
  have h3 := hI.bd at_ hat5
  have hxi := hx i hi5
  have hyk := hy k hk
  have hf : 0 ≤ f ∧ f ≤ 42784196460019693 := by unfold B51 at hxi; omega
  have hfy := mul_bd hf.1 hf.2 hyk.1 (show y k ≤ 2251799813685247 by unfold B51 at hyk; omega)
  have hs : (5 * (i : Int) + k) ≤ 24 := by omega
  have hA : Acc hi lo at_ ≤ 24 * 162259276829213363391578010288128 := by omega
  have hA' : Acc hi lo at_ = lo at_ + 18446744073709551616 * hi at_ := rfl
  refine ⟨hat5, by omega, by omega, ?_, ?_, ?_, ?_⟩
  · intro t ht
    by_cases e : t = at_
    · subst e; rw [updA_self]; omega
    · rw [updA_ne _ _ e]; exact hI.hi0 t ht
  · intro t ht
    by_cases e : t = at_
    · subst e; rw [updA_self]; exact hlc.1
    · rw [updA_ne _ _ e]; exact hI.lo0 t ht
  · intro t ht
    rw [Acc_upd]
    by_cases e : t = at_
    · subst e; rw [updA_self]; omega
    · rw [updA_ne _ _ e]; have := hI.bd t ht; omega
  · rw [Acc_upd, val_upd hat5]
    have e1 : lo' + 18446744073709551616 * (hi at_ + (h + c)) - Acc hi lo at_ = f * y k := by rw [hA']; omega
    rw [e1]
    obtain ⟨q, hq⟩ := hI.eq
    have hvk : val B51 (k + 1) y = val B51 k y + y k * B51 ^ k := rfl
    rw [hvk]
    have e2 : x i * B51 ^ i * (val B51 k y + y k * B51 ^ k) = x i * B51 ^ i * val B51 k y + x i * y k * B51 ^ (i + k) := by
      rw [Int.mul_add, Int.pow_add]; congr 1; simp only [Int.mul_assoc, Int.mul_left_comm]
    rw [e2]
    rcases hat with ⟨h4, rfl, rfl⟩ | ⟨h4, rfl, rfl⟩
    · exact ⟨q, by omega⟩
    · refine ⟨q + x i * y k * B51 ^ (i + k - 5), ?_⟩
      have e3 : B51 ^ (i + k) = B51 ^ (i + k - 5) * (p25519 + 19) := by
        rw [show p25519 + 19 = B51 ^ 5 from by decide, ← Int.pow_add, show i + k - 5 + 5 = i + k by omega]
      rw [e3, Int.add_mul]
      have e4 : x i * 19 * y k * B51 ^ (i + k - 5) = x i * y k * B51 ^ (i + k - 5) * 19 := by simp only [Int.mul_assoc, Int.mul_comm, Int.mul_left_comm]
      have e5 : x i * y k * (B51 ^ (i + k - 5) * (p25519 + 19)) = x i * y k * B51 ^ (i + k - 5) * p25519 + x i * y k * B51 ^ (i + k - 5) * 19 := by rw [← Int.mul_assoc, Int.mul_add]
      rw [e4, e5]
      omega

structure RedI (A out : Nat → Int) (j : Nat) (c : Int) : Prop where
  jn : j ≤ 5
  low : ∀ i, i < 5 → 0 ≤ out i ∧ out i < B51
  sum : val B51 j out + c * B51 ^ j = val B51 j A
  c0 : 0 ≤ c ∧ c < 18446744073709551616

theorem shl_or {h x : Int} (hh0 : 0 ≤ h) (hh : h < 2251799813685248) (hx0 : 0 ≤ x) (hx : x < 18446744073709551616) :
    orI .u64 (shlI .u64 h 13) (shrI .u64 x 51) = h * 8192 + x / B51 := by
  have s1 : shlI .u64 h 13 = h * 8192 := by
    have := shl64 h 13 (by omega)
    rw [show ((13 : Nat) : Int) = 13 from rfl, show (2 : Int) ^ 13 = 8192 from rfl] at this
    rw [this]; exact Int.emod_eq_of_lt (by omega) (by omega)
  rw [s1, shr51]
  exact orI_add .u64 rfl 13 (by decide) (by rw [show (2 : Int) ^ 13 = 8192 from rfl]; omega) (by omega) (by simp only [IntKind.bits]; omega) (by unfold B51; omega) (by rw [show (2 : Int) ^ 13 = 8192 from rfl]; unfold B51; omega)

theorem field_times_ret {x y : Nat → Int} {m n : Int} (hx : FE x m) (hy : FE y n) : Ret (F_field_times (F_field_least F_field_carried) add64 F_math_bits_Mul64 (x, y)) fun r => FE r (m * n % p25519) := by
  unfold F_field_times
  refine ret_let (ret_let (ret_let ?_))
  refine ret_loop (fun s => ∃ i : Nat, s.2.1 = i ∧ i ≤ 5 ∧ s.1 = x ∧ s.2.2.1 = y ∧ AccI s.2.2.2.2.1 s.2.2.2.2.2.1 x y i 0) (fun s => 5 - s.2.1.toNat)
    ⟨0, rfl, by omega, rfl, rfl, ⟨fun t ht => by simp, fun t ht => by simp, fun t ht => by simp [Acc], ⟨0, by simp [val, Acc]⟩⟩⟩ (by simp) ?_
  rintro self ⟨x', i', y', d, hi, lo, ⟨⟩⟩ ⟨i, hi', hi5, hx', hy', hA⟩ ih
  dsimp only at hi' hx' hy' hA ih ⊢
  subst hi'; subst hx'; subst hy'
  refine ret_let (ret_sel (fun hlt => ?_) (fun hge => ?_))
  · have hltN : i < 5 := by have := of_decide_eq_true hlt; omega
    clear hlt
    have hg := two_guard (a := (i : Int)) (n := 5) (by omega) (by omega)
    refine ret_guard hg (ret_let ?_)
    simp only [Int.toNat_natCast]
    refine ret_loop (fun s => ∃ k : Nat, s.2.2.2.2.2.1 = k ∧ k ≤ 5 ∧ s.1 = i ∧ s.2.1 = x' i ∧ s.2.2.1 = x' ∧ s.2.2.2.1 = i ∧ s.2.2.2.2.1 = y' ∧ s.2.2.2.2.2.2.1 = y' ∧ AccI s.2.2.2.2.2.2.2.2.1 s.2.2.2.2.2.2.2.2.2.1 x' y' i k) (fun s => 5 - s.2.2.2.2.2.1.toNat)
      ⟨0, rfl, by omega, rfl, rfl, rfl, rfl, rfl, rfl, hA⟩ (by simp) ?_
    rintro self' ⟨i1, f, x1, i2, y1, k', y2, d1, hi1, lo1, ⟨⟩⟩ ⟨k, h1, hk5, h2, h3, h4, h5, h6, h7, hI⟩ ih'
    dsimp only at h1 h2 h3 h4 h5 h6 h7 hI ih' ⊢
    subst h1; subst h2; subst h3; subst h4; subst h5; subst h6; subst h7
    refine ret_let (ret_sel (fun hlt' => ?_) (fun hge' => ?_))
    · have hltM : k < 5 := by have := of_decide_eq_true hlt'; omega
      clear hlt'
      have hlt' := hltM
      have hg := two_guard (a := (k : Int)) (n := 5) (by omega) (by omega)
      have hxi := hx.dig i hltN
      have hyk := hy.dig k hlt'
      have e0 : IntKind.i64.wrap ((i : Int) + (k : Int)) = ((i + k : Nat) : Int) := by rw [wrap_i64 (by omega) (by omega)]; simp
      have e1 : IntKind.i64.wrap ((k : Int) + 1) = ((k + 1 : Nat) : Int) := by rw [wrap_i64 (by omega) (by omega)]; simp
      refine ret_guard hg (ret_let (ret_let (ret_let ?_)))
      simp only [Int.toNat_natCast, e0]
      refine ret_sel (fun hle => ?_) (fun hle => ?_)
      · have hle : 5 ≤ i + k := by have := of_decide_eq_true hle; omega
        have e2 : IntKind.i64.wrap (((i + k : Nat) : Int) - 5) = ((i + k - 5 : Nat) : Int) := by rw [wrap_i64 (by omega) (by omega)]; omega
        have e3 : IntKind.u64.wrap (x1 i * 19) = x1 i * 19 := wrap_u64_id (by omega) (by unfold B51 at hxi; omega)
        have hg2 := two_guard (a := ((i + k - 5 : Nat) : Int)) (n := 5) (by omega) (by omega)
        refine ret_let (ret_let ?_)
        simp only [e2, e3]
        refine ret_bind (Mul64_ret (by omega) (by unfold B51 at hxi; omega) hyk.1 (by unfold B51 at hyk; omega)) ?_
        rintro ⟨h, l⟩ hhl
        refine ret_guard hg2 (ret_let ?_)
        simp only [Int.toNat_natCast]
        have hlo := hI.lo0 (i + k - 5) (by omega)
        refine ret_bind (add64_ret hlo.1 hlo.2 hhl.2.1.1 hhl.2.1.2 rfl) ?_
        rintro ⟨lo', c⟩ hlc
        obtain ⟨_, c1, c2, hI'⟩ := hI.step hx.dig hy.dig hltN hlt' (.inr ⟨hle, rfl, rfl⟩) hhl hlc
        have hh := hI.hi0 (i + k - 5) (by omega)
        have e4 : IntKind.u64.wrap (h + c) = h + c := wrap_u64_id (by simp only at hhl hlc; omega) (by simp only at c1; omega)
        have e5 : IntKind.u64.wrap (hi1 (i + k - 5) + (h + c)) = hi1 (i + k - 5) + (h + c) := wrap_u64_id (by simp only at hhl hlc; omega) (by simp only at c2; omega)
        refine ret_guard hg2 (ret_let (ret_guard hg2 (ret_let (ret_let (ret_let (ret_guard hg2 (ret_let (ret_let ?_))))))))
        simp only [e1, e4, e5]
        exact ih' _ ⟨k + 1, rfl, by omega, rfl, rfl, rfl, rfl, rfl, rfl, hI'⟩ (by simp; omega)
      · have hle : i + k < 5 := by have := of_decide_eq_false hle; omega
        have hg2 := two_guard (a := ((i + k : Nat) : Int)) (n := 5) (by omega) (by omega)
        refine ret_bind (Mul64_ret (by omega) (by unfold B51 at hxi; omega) hyk.1 (by unfold B51 at hyk; omega)) ?_
        rintro ⟨h, l⟩ hhl
        refine ret_guard hg2 (ret_let ?_)
        dsimp only
        have hlo := hI.lo0 (i + k) (by omega)
        refine ret_bind (add64_ret hlo.1 hlo.2 hhl.2.1.1 hhl.2.1.2 rfl) ?_
        rintro ⟨lo', c⟩ hlc
        obtain ⟨_, c1, c2, hI'⟩ := hI.step hx.dig hy.dig hltN hlt' (.inl ⟨hle, rfl, rfl⟩) hhl hlc
        have hh := hI.hi0 (i + k) (by omega)
        have e4 : IntKind.u64.wrap (h + c) = h + c := wrap_u64_id (by simp only at hhl hlc; omega) (by simp only at c1; omega)
        have e5 : IntKind.u64.wrap (hi1 (i + k) + (h + c)) = hi1 (i + k) + (h + c) := wrap_u64_id (by simp only at hhl hlc; omega) (by simp only at c2; omega)
        refine ret_guard hg2 (ret_let (ret_guard hg2 (ret_let (ret_let (ret_let (ret_guard hg2 (ret_let (ret_let ?_))))))))
        simp only [e1, e4, e5]
        exact ih' _ ⟨k + 1, rfl, by omega, rfl, rfl, rfl, rfl, rfl, rfl, hI'⟩ (by simp; omega)
    · have ek : k = 5 := by simp at hge'; omega
      subst ek
      have e1 : IntKind.i64.wrap ((i : Int) + 1) = ((i + 1 : Nat) : Int) := by rw [wrap_i64 (by omega) (by omega)]; simp
      refine ret_let ?_
      simp only [e1]
      refine ih _ ⟨i + 1, rfl, by omega, rfl, rfl, hI.hi0, hI.lo0, fun t ht => ?_, ?_⟩ (by simp; omega)
      · have := hI.bd t ht; simp only at this ⊢; omega
      · obtain ⟨q, hq⟩ := hI.eq
        refine ⟨q, ?_⟩
        dsimp only
        rw [hq]
        simp only [val, Int.add_mul]
        omega
  · have ei : i = 5 := by simp at hge; omega
    subst ei
    clear ih
    obtain ⟨q, hq⟩ := hA.eq
    rw [hx.val, hy.val] at hq
    rw [show val B51 0 y' = 0 from rfl, Int.mul_zero, Int.add_zero] at hq
    have hAb : ∀ t, t < 5 → 0 ≤ Acc hi lo t ∧ Acc hi lo t ≤ 25 * 162259276829213363391578010288128 := fun t ht => by
      have h1 := hA.bd t ht
      have h2 := hA.hi0 t ht
      have h3 := hA.lo0 t ht
      refine ⟨by unfold Acc; omega, by simp at h1; omega⟩
    refine ret_let ?_
    refine ret_loop (fun s => ∃ j : Nat, s.2.1 = j ∧ s.2.2.2.1 = hi ∧ s.2.2.2.2.1 = lo ∧ RedI (Acc hi lo) s.2.2.2.2.2.1 j s.1) (fun s => 5 - s.2.1.toNat)
      ⟨0, rfl, rfl, rfl, ⟨by omega, fun i hi => by simp; decide, by simp [val], by omega⟩⟩ (by simp) ?_
    rintro self' ⟨c, j', d', hi1, lo1, out, ⟨⟩⟩ ⟨j, h1, h2, h3, hR⟩ ih'
    dsimp only at h1 h2 h3 hR ih' ⊢
    subst h1; subst h2; subst h3
    refine ret_let (ret_sel (fun hlt' => ?_) (fun hge' => ?_))
    · have hlt' : j < 5 := by have := of_decide_eq_true hlt'; omega
      have hg := two_guard (a := (j : Int)) (n := 5) (by omega) (by omega)
      have hlo := hA.lo0 j hlt'
      have hhi := hA.hi0 j hlt'
      have hAj := hAb j hlt'
      have hc := hR.c0
      refine ret_guard hg (ret_let ?_)
      simp only [Int.toNat_natCast]
      refine ret_bind (add64_ret hlo.1 hlo.2 hc.1 hc.2 rfl) ?_
      rintro ⟨z, more⟩ hzm
      dsimp only at hzm
      have hhb : hi1 j < 1125899906842624 := by unfold Acc at hAj; omega
      have e1 : IntKind.u64.wrap (hi1 j + more) = hi1 j + more := wrap_u64_id (by omega) (by omega)
      have e2 : IntKind.i64.wrap ((j : Int) + 1) = ((j + 1 : Nat) : Int) := by rw [wrap_i64 (by omega) (by omega)]; simp
      have e3 := shl_or (h := hi1 j + more) (x := z) (by omega) (by omega) (by omega) (by omega)
      refine ret_let (ret_guard hg (ret_let (ret_guard hg (ret_let (ret_let (ret_let (ret_let (ret_let (ret_let ?_)))))))))
      simp only [e1, e2, e3, and51 (x := z) (by omega) (by omega)]
      have hT : Acc hi1 lo1 j + c = z + 18446744073709551616 * (hi1 j + more) := by unfold Acc; omega
      refine ih' _ ⟨j + 1, rfl, rfl, rfl, by omega, fun t ht => ?_, ?_, ?_⟩ (by simp; omega)
      · dsimp only
        by_cases e : t = j
        · subst e; rw [updA_self]; unfold B51; omega
        · rw [updA_ne _ _ e]; exact hR.low t ht
      · dsimp only
        simp only [val]
        rw [val_upd_ge (Nat.le_refl _), updA_self, ← hR.sum, Int.pow_succ]
        have e5 : z % B51 + ((hi1 j + more) * 8192 + z / B51) * B51 = Acc hi1 lo1 j + c := by rw [hT]; unfold B51; omega
        have e6 : ((hi1 j + more) * 8192 + z / B51) * (B51 ^ j * B51) = ((hi1 j + more) * 8192 + z / B51) * B51 * B51 ^ j := by simp only [Int.mul_assoc, Int.mul_comm, Int.mul_left_comm]
        rw [e6]
        generalize ((hi1 j + more) * 8192 + z / B51) * B51 = u at *
        have e7 : Acc hi1 lo1 j = z % B51 + u - c := by omega
        rw [e7, Int.sub_mul, Int.add_mul]
        omega
      · dsimp only; unfold B51; omega
    · have ej : j = 5 := by have := hR.jn; simp at hge'; omega
      subst ej
      have hc := hR.c0
      have o0 := hR.low 0 (by omega)
      have o1 := hR.low 1 (by omega)
      have hsum := hR.sum
      have e1 : IntKind.u64.wrap (19 * (c % B51)) = 19 * (c % B51) := wrap_u64_id (by unfold B51; omega) (by unfold B51; omega)
      have e2 : IntKind.u64.wrap (out 0 + 19 * (c % B51)) = out 0 + 19 * (c % B51) := wrap_u64_id (by unfold B51 at *; omega) (by unfold B51 at *; omega)
      have e3 : IntKind.u64.wrap (19 * (c / B51)) = 19 * (c / B51) := wrap_u64_id (by unfold B51; omega) (by unfold B51; omega)
      have e4 : IntKind.u64.wrap (out 1 + 19 * (c / B51)) = out 1 + 19 * (c / B51) := wrap_u64_id (by unfold B51 at *; omega) (by unfold B51 at *; omega)
      repeat (with_reducible refine ret_let ?_)
      simp only [and51 hc.1 hc.2, shr51, e1, e2, e3, updA_ne out (out 0 + 19 * (c % B51)) (show (1 : Nat) ≠ 0 by decide), e4]
      refine ret_bind (field_least_ret ?_) ?_
      · intro t ht
        by_cases e : t = 1
        · subst e; rw [updA_self]; unfold B51 at *; omega
        · rw [updA_ne _ _ e]
          by_cases e' : t = 0
          · subst e'; rw [updA_self]; unfold B51 at *; omega
          · rw [updA_ne _ _ e']; have := hR.low t ht; unfold B51 at *; omega
      · intro r hr
        refine ret_some ?_
        have hv : val B51 5 (updA (updA out 0 (out 0 + 19 * (c % B51))) 1 (out 1 + 19 * (c / B51))) = val B51 5 out + 19 * c := by
          rw [val_upd (by omega), val_upd (by omega), updA_ne _ _ (by decide)]
          simp only [Int.pow_zero, Int.pow_succ, Int.mul_one, Int.one_mul]
          unfold B51; omega
        rw [hv] at hr
        have e6 : val B51 5 out + 19 * c = m * n - (q + c) * p25519 := by
          have e5 : B51 ^ 5 = p25519 + 19 := by decide
          rw [e5, Int.mul_add] at hsum
          rw [Int.add_mul]
          omega
        rw [e6, Int.sub_mul_emod_self_right] at hr
        exact hr

end Go.Sx
