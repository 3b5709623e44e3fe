/-
  Functions of the field, the last: sums, differences, powers, bytes.
-/
import Derived.Test.YtagooceoocohpaaSyFle
set_option maxRecDepth 100000
set_option linter.unusedVariables false
namespace Go.Sx

theorem field_Num_ret {n : Int} (h0 : 0 ≤ n) (h1 : n < 18446744073709551616) : Ret (F_field_Num n) fun r => FE r n := by
  unfold F_field_Num
  repeat (with_reducible refine ret_let ?_)
  refine ret_some ?_
  simp only [and51 h0 h1, shr51]
  refine ⟨fun i hi => ?_, ?_, by unfold p25519; omega⟩
  · have : i = 0 ∨ i = 1 ∨ i = 2 ∨ i = 3 ∨ i = 4 := by omega
    unfold B51
    rcases this with rfl | rfl | rfl | rfl | rfl <;> simp [updA] <;> omega
  · rw [val5n]; simp [updA]; unfold B51; omega

def twiceP : Nat → Int := updA (updA (updA (updA (updA (fun _ => 0) 0 4503599627370458) 1 4503599627370494) 2 4503599627370494) 3 4503599627370494) 4 4503599627370494

theorem twice_bd : ∀ i, i < 5 → 4503599627370458 ≤ twiceP i ∧ twiceP i ≤ 4503599627370494 := fun i hi => by
  have : i = 0 ∨ i = 1 ∨ i = 2 ∨ i = 3 ∨ i = 4 := by omega
  rcases this with rfl | rfl | rfl | rfl | rfl <;> simp [twiceP, updA]

theorem val_add_fun {B : Int} : ∀ {n : Nat} {f g : Nat → Int}, val B n (fun i => f i + g i) = val B n f + val B n g
  | 0, _, _ => rfl
  | n + 1, f, g => by simp only [val]; rw [val_add_fun, Int.add_mul]; omega

theorem val_sub_fun {B : Int} : ∀ {n : Nat} {f g : Nat → Int}, val B n (fun i => f i - g i) = val B n f - val B n g
  | 0, _, _ => rfl
  | n + 1, f, g => by simp only [val]; rw [val_sub_fun, Int.sub_mul]; omega

theorem field_Sub_ret {x y : Nat → Int} {m n : Int} (hx : FE x m) (hy : FE y n) : Ret (F_field_Sub (F_field_least F_field_carried) (x, y)) fun r => FE r ((m - n) % p25519) := by
  unfold F_field_Sub
  refine ret_let (ret_let (ret_let ?_))
  refine ret_loop (fun s => ∃ k : Nat, s.1 = k ∧ k ≤ 5 ∧ s.2.2.1 = y ∧ s.2.2.2.2.1 = twiceP ∧ ∀ i, s.2.1 i = if i < k then x i + (twiceP i - y i) else x i) (fun s => 5 - s.1.toNat) ⟨0, rfl, by omega, rfl, rfl, fun i => by simp⟩ (by simp) ?_
  rintro self ⟨k', l, y', d, t', ⟨⟩⟩ ⟨k, h1, hk5, h2, h3, hl⟩ ih
  dsimp only at h1 h2 h3 hl ih ⊢
  subst h1; subst h2; subst h3
  refine ret_let (ret_sel (fun hlt => ?_) (fun hge => ?_))
  · have hltN : k < 5 := by have := of_decide_eq_true hlt; omega
    have hg := two_guard (a := (k : Int)) (n := 5) (by omega) (by omega)
    have hlk := hl k
    rw [if_neg (Nat.lt_irrefl _)] at hlk
    have b1 := hx.dig k hltN; have b2 := hy.dig k hltN; have b3 := twice_bd k hltN
    have e1 : IntKind.u64.wrap (twiceP k - y' k) = twiceP k - y' k := wrap_u64_id (by unfold B51 at b2; omega) (by omega)
    have e2 : IntKind.u64.wrap (x k + (twiceP k - y' k)) = x k + (twiceP k - y' k) := wrap_u64_id (by unfold B51 at b2; omega) (by unfold B51 at b1; omega)
    have e3 : IntKind.i64.wrap ((k : Int) + 1) = ((k + 1 : Nat) : Int) := by rw [wrap_i64 (by omega) (by omega)]; simp
    refine ret_guard hg (ret_let (ret_guard hg (ret_let (ret_guard hg (ret_let (ret_let (ret_let (ret_guard hg (ret_let (ret_let ?_))))))))))
    simp only [Int.toNat_natCast, hlk, e1, e2, e3]
    refine ih _ ⟨k + 1, rfl, by omega, rfl, rfl, fun i => ?_⟩ (by simp; omega)
    dsimp only
    by_cases e : i = k
    · subst e; rw [updA_self, if_pos (by omega)]
    · rw [updA_ne _ _ e, hl i]
      by_cases h : i < k
      · rw [if_pos h, if_pos (by omega)]
      · rw [if_neg h, if_neg (by omega)]
  · have ek : k = 5 := by simp at hge; omega
    subst ek
    have hv : val B51 5 l = m - n + 2 * p25519 := by
      have : val B51 5 l = val B51 5 (fun i => x i + (twiceP i - y' i)) := val_congr fun i hi => by rw [hl i, if_pos hi]
      rw [this, val_add_fun, val_sub_fun, hx.val, hy.val]
      have : val B51 5 twiceP = 2 * p25519 := by decide
      omega
    refine ret_bind (field_least_ret (l := l) fun i hi => ?_) ?_
    · rw [hl i, if_pos hi]
      have b1 := hx.dig i hi; have b2 := hy.dig i hi; have b3 := twice_bd i hi
      unfold B51 at *; omega
    · intro r hr
      refine ret_some ?_
      rw [hv, Int.add_mul_emod_self_right] at hr
      exact hr

def fv (x : Nat → Int) : Int := val B51 5 x
def IsFE (x : Nat → Int) : Prop := FE x (fv x)

theorem FE.isFE {x : Nat → Int} {n : Int} (h : FE x n) : IsFE x := ⟨h.dig, rfl, by rw [fv, h.val]; exact h.lt⟩
theorem FE.fv {x : Nat → Int} {n : Int} (h : FE x n) : fv x = n := h.val
theorem IsFE.dflt : FE (fun _ => 0) 0 := ⟨fun i hi => by simp; decide, by simp [val], by decide⟩

def sumS (xs : List (Nat → Int)) : Int := xs.foldl (fun s x => (s + fv x) % p25519) 0
def prodS (xs : List (Nat → Int)) : Int := xs.foldl (fun s x => s * fv x % p25519) 1

theorem fold_take {α β : Type} (f : β → α → β) (b : β) (d : α) (xs : List α) (k : Nat) (h : k < xs.length) : (xs.take (k + 1)).foldl f b = f ((xs.take k).foldl f b) (xs.getD k d) := by
  rw [List.take_succ_eq_append_getElem h, List.foldl_append]
  simp [List.getD, List.getElem?_eq_getElem h]

theorem getD_mem {α : Type} (xs : List α) (k : Nat) (d : α) (h : k < xs.length) : xs.getD k d ∈ xs := by
  rw [List.getD, List.getElem?_eq_getElem h]; simp

theorem field_Add_ret {xs : List (Nat → Int)} (hx : ∀ x ∈ xs, IsFE x) (hl : xs.length ≤ 140737488351232) : Ret (F_field_Add (F_field_least F_field_carried) xs) fun r => FE r (sumS xs) := by
  unfold F_field_Add
  refine ret_let (ret_let (ret_let ?_))
  refine ret_loop (fun s => ∃ k : Nat, s.1 = xs.length ∧ s.2.1 = k ∧ k ≤ xs.length ∧ s.2.2.2.2.1 = xs ∧ FE s.2.2.2.1 (sumS (xs.take k))) (fun s => xs.length - s.2.1.toNat) ⟨0, rfl, rfl, by omega, rfl, IsFE.dflt⟩ (by dsimp only; omega) ?_
  rintro self ⟨n', k', d, r, xs', ⟨⟩⟩ ⟨k, h1, h2, hk, h3, hr⟩ ih
  dsimp only at h1 h2 h3 hr ih ⊢
  subst h1; subst h2; subst h3
  refine ret_let (ret_sel (fun hlt => ?_) (fun hge => ?_))
  · have hltN : k < xs'.length := by have := of_decide_eq_true hlt; omega
    have hg := two_guard (a := (k : Int)) (n := (xs'.length : Int)) (by omega) (by omega)
    refine ret_guard hg (ret_guard (decide_eq_true (by simp; exact hltN)) (ret_let (ret_let ?_)))
    simp only [Int.toNat_natCast]
    have hxk := hx _ (getD_mem xs' k (fun _ => 0) hltN)
    generalize hxe : xs'.getD k (fun _ => 0) = x at *
    refine ret_loop (fun s => ∃ j : Nat, s.1 = xs'.length ∧ s.2.1 = k ∧ s.2.2.1 = j ∧ j ≤ 5 ∧ s.2.2.2.2.2.1 = x ∧ s.2.2.2.2.2.2.1 = xs' ∧ ∀ i, s.2.2.2.2.1 i = if i < j then r i + x i else r i) (fun s => 5 - s.2.2.1.toNat) ⟨0, rfl, rfl, rfl, by omega, rfl, rfl, fun i => by simp⟩ (by simp) ?_
    rintro self' ⟨n1, k1, j', d1, l, x1, xs1, ⟨⟩⟩ ⟨j, g1, g2, g3, hj5, g4, g5, hl'⟩ ih'
    dsimp only at g1 g2 g3 g4 g5 hl' ih' ⊢
    subst g1; subst g2; subst g3; subst g4; subst g5
    refine ret_let (ret_sel (fun hlt' => ?_) (fun hge' => ?_))
    · have hltM : j < 5 := by have := of_decide_eq_true hlt'; omega
      have hg := two_guard (a := (j : Int)) (n := 5) (by omega) (by omega)
      have hlk := hl' j
      rw [if_neg (Nat.lt_irrefl _)] at hlk
      have b1 := hr.dig j hltM; have b2 := hxk.dig j hltM
      have e1 : IntKind.u64.wrap (r j + x1 j) = r j + x1 j := wrap_u64_id (by omega) (by unfold B51 at *; omega)
      have e3 : IntKind.i64.wrap ((j : Int) + 1) = ((j + 1 : Nat) : Int) := by rw [wrap_i64 (by omega) (by omega)]; simp
      refine ret_guard hg (ret_let (ret_guard hg (ret_let (ret_let (ret_guard hg (ret_let (ret_let ?_)))))))
      simp only [Int.toNat_natCast, hlk, e1, e3]
      refine ih' _ ⟨j + 1, rfl, rfl, rfl, by omega, rfl, rfl, fun i => ?_⟩ (by simp; omega)
      dsimp only
      by_cases e : i = j
      · subst e; rw [updA_self, if_pos (by omega)]
      · rw [updA_ne _ _ e, hl' i]
        by_cases h : i < j
        · rw [if_pos h, if_pos (by omega)]
        · rw [if_neg h, if_neg (by omega)]
    · have ej : j = 5 := by simp at hge'; omega
      subst ej
      have hv : val B51 5 l = sumS (xs1.take k) + fv x1 := by
        have : val B51 5 l = val B51 5 (fun i => r i + x1 i) := val_congr fun i hi => by rw [hl' i, if_pos hi]
        rw [this, val_add_fun, hr.val]; rfl
      refine ret_bind (field_least_ret (l := l) fun i hi => ?_) ?_
      · rw [hl' i, if_pos hi]
        have b1 := hr.dig i hi; have b2 := hxk.dig i hi
        unfold B51 at *; omega
      · intro z hz
        have e3 : IntKind.i64.wrap ((k : Int) + 1) = ((k + 1 : Nat) : Int) := by rw [wrap_i64 (by omega) (by omega)]; simp
        refine ret_let ?_
        simp only [e3]
        refine ih _ ⟨k + 1, rfl, rfl, by omega, rfl, ?_⟩ (by simp; omega)
        dsimp only
        unfold sumS at hv ⊢
        rw [fold_take _ _ (fun _ => 0) xs1 k hltN, hxe, ← hv]
        exact hz
  · have ek : k = xs'.length := by simp at hge; omega
    subst ek
    rw [List.take_length] at hr
    exact ret_some hr

noncomputable abbrev tms := F_field_times (F_field_least F_field_carried) add64 F_math_bits_Mul64

theorem field_Mul_ret {xs : List (Nat → Int)} (hx : ∀ x ∈ xs, IsFE x) (hl : xs.length ≤ 140737488351232) : Ret (F_field_Mul F_field_Num tms xs) fun r => FE r (prodS xs) := by
  unfold F_field_Mul
  refine ret_let (ret_bind (field_Num_ret (by omega) (by omega)) ?_)
  intro one hone
  refine ret_let (ret_let ?_)
  refine ret_loop (fun s => ∃ k : Nat, s.1 = xs.length ∧ s.2.1 = k ∧ k ≤ xs.length ∧ s.2.2.2.2.1 = xs ∧ FE s.2.2.2.1 (prodS (xs.take k))) (fun s => xs.length - s.2.1.toNat) ⟨0, rfl, rfl, by omega, rfl, hone⟩ (by dsimp only; omega) ?_
  rintro self ⟨n', k', d, r, xs', ⟨⟩⟩ ⟨k, h1, h2, hk, h3, hr⟩ ih
  dsimp only at h1 h2 h3 hr ih ⊢
  subst h1; subst h2; subst h3
  refine ret_let (ret_sel (fun hlt => ?_) (fun hge => ?_))
  · have hltN : k < xs'.length := by have := of_decide_eq_true hlt; omega
    have hg := two_guard (a := (k : Int)) (n := (xs'.length : Int)) (by omega) (by omega)
    refine ret_guard hg (ret_guard (decide_eq_true (by simp; exact hltN)) (ret_let (ret_let ?_)))
    simp only [Int.toNat_natCast]
    have hxk := hx _ (getD_mem xs' k (fun _ => 0) hltN)
    refine ret_bind (field_times_ret hr hxk) ?_
    intro z hz
    have e3 : IntKind.i64.wrap ((k : Int) + 1) = ((k + 1 : Nat) : Int) := by rw [wrap_i64 (by omega) (by omega)]; simp
    refine ret_let ?_
    simp only [e3]
    refine ih _ ⟨k + 1, rfl, rfl, by omega, rfl, ?_⟩ (by simp; omega)
    dsimp only
    unfold prodS at hz ⊢
    rw [fold_take _ _ (fun _ => 0) xs' k hltN]
    exact hz
  · have ek : k = xs'.length := by simp at hge; omega
    subst ek
    rw [List.take_length] at hr
    exact ret_some hr

/-- p - 2; shut. -/
noncomputable def eInv : Nat := (Classical.choice (⟨⟨57896044618658097711785492504343953926634992332820282019728792003956564819947, rfl⟩⟩ : Nonempty { n : Nat // n = 57896044618658097711785492504343953926634992332820282019728792003956564819947 })).1

theorem eInv_eq : eInv = 57896044618658097711785492504343953926634992332820282019728792003956564819947 := (Classical.choice (⟨⟨57896044618658097711785492504343953926634992332820282019728792003956564819947, rfl⟩⟩ : Nonempty { n : Nat // n = 57896044618658097711785492504343953926634992332820282019728792003956564819947 })).2

theorem eInv_bits : ∀ i, i < 255 → eInv / 2 ^ i = 2 * (eInv / 2 ^ (i + 1)) + (if i = 2 ∨ i = 4 then 0 else 1) := by rw [eInv_eq]; decide +kernel
theorem eInv_top : eInv / 2 ^ 255 = 0 := by rw [eInv_eq]

noncomputable def invS (m : Int) : Int := m ^ eInv % p25519

theorem pow_sq_mod (m P : Int) (e : Nat) : (m ^ e % P) * (m ^ e % P) % P = m ^ (2 * e) % P := by
  rw [← Int.mul_emod, ← Int.pow_add, show e + e = 2 * e by omega]
theorem pow_mul_mod (m P : Int) (e : Nat) : (m ^ e % P) * m % P = m ^ (e + 1) % P := by
  rw [Int.pow_succ, Int.mul_emod, Int.emod_emod_of_dvd _ (Int.dvd_refl P), ← Int.mul_emod]

theorem field_Inv_ret {x : Nat → Int} {m : Int} (hx : FE x m) : Ret (F_field_Inv F_field_Num tms x) fun r => FE r (invS m) := by
  unfold F_field_Inv
  refine ret_let (ret_bind (field_Num_ret (by omega) (by omega)) ?_)
  intro one hone
  refine ret_let ?_
  refine ret_loop (fun s => ∃ k : Nat, s.1 = (k : Int) - 1 ∧ k ≤ 255 ∧ s.2.1 = x ∧ FE s.2.2.2.1 (m ^ (eInv / 2 ^ k) % p25519)) (fun s => (s.1 + 1).toNat) ⟨255, rfl, by omega, rfl, ?_⟩ (by simp) ?_
  · dsimp only
    rw [eInv_top, Int.pow_zero, show (1 : Int) % p25519 = 1 from by decide]
    exact hone
  rintro self ⟨k', x', d, r, ⟨⟩⟩ ⟨k, h1, hk, h3, hr⟩ ih
  dsimp only at h1 h3 hr ih ⊢
  subst h1; subst h3
  refine ret_let (ret_sel (fun hlt => ?_) (fun hge => ?_))
  · obtain ⟨i, rfl⟩ : ∃ i, k = i + 1 := ⟨k - 1, by have := of_decide_eq_true hlt; omega⟩
    have hi : i < 255 := by omega
    have e0 : ((i + 1 : Nat) : Int) - 1 = i := by omega
    simp only [e0] at ih ⊢
    have e3 : IntKind.i64.wrap ((i : Int) - 1) = (i : Int) - 1 := wrap_i64 (by omega) (by omega)
    refine ret_bind (field_times_ret hr hr) ?_
    intro y hy
    rw [pow_sq_mod] at hy
    refine ret_bind (M := fun u => u.1 = decide (¬(i = 2 ∨ i = 4))) ?_ ?_
    · by_cases c2 : i = 2
      · subst c2; exact ⟨_, rfl, by decide⟩
      · by_cases c4 : i = 4
        · subst c4; exact ⟨_, rfl, by decide⟩
        · have d2 : ((i : Int) != 2) = true := by simp; omega
          have d4 : ((i : Int) != 4) = true := by simp; omega
          refine ret_let ?_
          rw [d2]
          refine ret_let ?_
          rw [d4]
          exact ret_some (by simp [c2, c4])
    · rintro ⟨b, ⟨⟩⟩ hb
      dsimp only at hb ⊢
      subst hb
      have hbits := eInv_bits i hi
      refine ret_sel (fun hc => ?_) (fun hc => ?_)
      · have hc : ¬(i = 2 ∨ i = 4) := of_decide_eq_true hc
        rw [if_neg hc] at hbits
        refine ret_bind (field_times_ret hy hx) ?_
        intro z hz
        rw [pow_mul_mod, ← hbits] at hz
        refine ret_let ?_
        simp only [e3]
        exact ih _ ⟨i, rfl, by omega, rfl, hz⟩ (by simp)
      · have hc : i = 2 ∨ i = 4 := by have := of_decide_eq_false hc; omega
        rw [if_pos hc, Nat.add_zero] at hbits
        rw [← hbits] at hy
        refine ret_let ?_
        simp only [e3]
        exact ih _ ⟨i, rfl, by omega, rfl, hy⟩ (by simp)
  · have ek : k = 0 := by have := of_decide_eq_false hge; omega
    subst ek
    rw [Nat.pow_zero, Nat.div_one] at hr
    exact ret_some hr

end Go.Sx
