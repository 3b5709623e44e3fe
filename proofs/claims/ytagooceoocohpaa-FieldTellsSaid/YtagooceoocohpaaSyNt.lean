/-
  Numbers: primes, Fermat, a certificate that 2^255 - 19 is a prime.
-/
set_option linter.unusedVariables false
namespace Go.Sx

def Pri (p : Nat) : Prop := 2 ≤ p ∧ ∀ d, d ∣ p → d = 1 ∨ d = p

theorem Pri.coprime {p a : Nat} (hp : Pri p) (h : ¬ p ∣ a) : Nat.Coprime p a := by
  rcases hp.2 _ (Nat.gcd_dvd_left p a) with e | e
  · exact e
  · exact absurd (by have := Nat.gcd_dvd_right p a; rwa [e] at this) h

theorem Pri.mul {p a b : Nat} (hp : Pri p) (h : p ∣ a * b) : p ∣ a ∨ p ∣ b := by
  rcases Classical.em (p ∣ a) with h1 | h1
  · exact .inl h1
  · exact .inr ((hp.coprime h1).dvd_of_dvd_mul_left h)

/-! ### The binomial theorem -/

def ch : Nat → Nat → Nat
  | _, 0 => 1
  | 0, _ + 1 => 0
  | n + 1, k + 1 => ch n k + ch n (k + 1)

theorem ch_zero (n : Nat) : ch n 0 = 1 := by cases n <;> rfl

theorem ch_gt : ∀ (n k : Nat), n < k → ch n k = 0
  | n, 0, h => by omega
  | 0, k + 1, _ => rfl
  | n + 1, k + 1, h => by simp only [ch]; rw [ch_gt n k (by omega), ch_gt n (k + 1) (by omega)]

theorem ch_self : ∀ n, ch n n = 1
  | 0 => rfl
  | n + 1 => by simp only [ch]; rw [ch_self n, ch_gt n (n + 1) (by omega)]

theorem ch_mul : ∀ (n k : Nat), (k + 1) * ch (n + 1) (k + 1) = (n + 1) * ch n k
  | 0, 0 => rfl
  | 0, k + 1 => by simp [ch]
  | n + 1, 0 => by
    have := ch_mul n 0
    simp only [ch, ch_zero] at *
    omega
  | n + 1, k + 1 => by
    have h1 := ch_mul n (k + 1)
    have h2 := ch_mul n k
    have e : ch (n + 1 + 1) (k + 1 + 1) = ch (n + 1) (k + 1) + ch (n + 1) (k + 1 + 1) := rfl
    have e2 : ch (n + 1) (k + 1) = ch n k + ch n (k + 1) := rfl
    rw [e, Nat.mul_add, h1]
    have e3 : (k + 1 + 1) * ch (n + 1) (k + 1) = (k + 1) * ch (n + 1) (k + 1) + ch (n + 1) (k + 1) := by rw [Nat.add_mul (k + 1) 1, Nat.one_mul]
    rw [e3, h2]
    have e4 : (n + 1 + 1) * ch (n + 1) (k + 1) = (n + 1) * ch (n + 1) (k + 1) + ch (n + 1) (k + 1) := by rw [Nat.add_mul (n + 1) 1, Nat.one_mul]
    rw [e4, e2, Nat.mul_add]
    omega

def sumTo (f : Nat → Nat) : Nat → Nat
  | 0 => 0
  | n + 1 => sumTo f n + f n

theorem sumTo_front (f : Nat → Nat) : ∀ n, sumTo f (n + 1) = f 0 + sumTo (fun k => f (k + 1)) n
  | 0 => by simp [sumTo]
  | n + 1 => by
    have := sumTo_front f n
    simp only [sumTo] at this ⊢
    omega

theorem sumTo_add (f g : Nat → Nat) : ∀ n, sumTo (fun k => f k + g k) n = sumTo f n + sumTo g n
  | 0 => rfl
  | n + 1 => by simp only [sumTo]; rw [sumTo_add f g n]; omega

theorem sumTo_mul (c : Nat) (f : Nat → Nat) : ∀ n, sumTo (fun k => c * f k) n = c * sumTo f n
  | 0 => rfl
  | n + 1 => by simp only [sumTo]; rw [sumTo_mul c f n, Nat.mul_add]

theorem sumTo_congr {f g : Nat → Nat} : ∀ n, (∀ k, k < n → f k = g k) → sumTo f n = sumTo g n
  | 0, _ => rfl
  | n + 1, h => by simp only [sumTo]; rw [sumTo_congr n fun k hk => h k (by omega), h n (by omega)]

theorem binom (a : Nat) : ∀ n, (a + 1) ^ n = sumTo (fun k => ch n k * a ^ k) (n + 1)
  | 0 => by simp [sumTo, ch]
  | n + 1 => by
    rw [Nat.pow_succ, binom a n, Nat.mul_add, Nat.mul_one, sumTo_front (fun k => ch (n + 1) k * a ^ k) (n + 1)]
    have e1 : sumTo (fun k => ch (n + 1) (k + 1) * a ^ (k + 1)) (n + 1) = sumTo (fun k => a * (ch n k * a ^ k)) (n + 1) + sumTo (fun k => ch n (k + 1) * a ^ (k + 1)) (n + 1) := by
      rw [← sumTo_add]
      refine sumTo_congr _ fun k _ => ?_
      simp only [ch]
      rw [Nat.add_mul, Nat.pow_succ]
      congr 1
      simp only [Nat.mul_comm, Nat.mul_assoc]
    have e2 : sumTo (fun k => ch n (k + 1) * a ^ (k + 1)) (n + 1) + 1 = sumTo (fun k => ch n k * a ^ k) (n + 1) := by
      rw [sumTo_front (fun k => ch n k * a ^ k) n]
      have : sumTo (fun k => ch n (k + 1) * a ^ (k + 1)) (n + 1) = sumTo (fun k => ch n (k + 1) * a ^ (k + 1)) n := by
        simp only [sumTo]; rw [ch_gt n (n + 1) (by omega), Nat.zero_mul, Nat.add_zero]
      rw [this, ch_zero]; simp; omega
    rw [e1, sumTo_mul, ch_zero, ← e2]
    simp [Nat.mul_comm]
    omega

theorem sumTo_dvd {p : Nat} {f : Nat → Nat} : ∀ n, (∀ k, k < n → p ∣ f k) → p ∣ sumTo f n
  | 0, _ => Nat.dvd_zero p
  | n + 1, h => Nat.dvd_add (sumTo_dvd n fun k hk => h k (by omega)) (h n (by omega))

theorem Pri.ch_dvd {p k : Nat} (hp : Pri p) (h0 : 0 < k) (h1 : k < p) : p ∣ ch p k := by
  obtain ⟨j, rfl⟩ : ∃ j, k = j + 1 := ⟨k - 1, by omega⟩
  obtain ⟨n, rfl⟩ : ∃ n, p = n + 1 := ⟨p - 1, by omega⟩
  have h := ch_mul n j
  have : n + 1 ∣ (j + 1) * ch (n + 1) (j + 1) := ⟨ch n j, h⟩
  rcases hp.mul this with h | h
  · exact absurd (Nat.le_of_dvd (by omega) h) (by omega)
  · exact h

theorem Pri.fresh {p : Nat} (hp : Pri p) (a : Nat) : (a + 1) ^ p % p = (a ^ p + 1) % p := by
  obtain ⟨n, rfl⟩ : ∃ n, p = n + 1 := ⟨p - 1, by have := hp.1; omega⟩
  rw [binom]
  have e : sumTo (fun k => ch (n + 1) k * a ^ k) (n + 1 + 1) = 1 + sumTo (fun k => ch (n + 1) (k + 1) * a ^ (k + 1)) n + a ^ (n + 1) := by
    rw [sumTo_front]
    simp only [sumTo, ch_zero, ch_self]
    simp
    omega
  obtain ⟨c, hc⟩ := sumTo_dvd (p := n + 1) (f := fun k => ch (n + 1) (k + 1) * a ^ (k + 1)) n fun k hk => Nat.dvd_trans (hp.ch_dvd (k := k + 1) (by omega) (by omega)) (Nat.dvd_mul_right _ _)
  rw [e, hc, show 1 + (n + 1) * c + a ^ (n + 1) = a ^ (n + 1) + 1 + (n + 1) * c by omega, Nat.add_mul_mod_self_left]

theorem Pri.flt {p : Nat} (hp : Pri p) : ∀ a, a ^ p % p = a % p
  | 0 => by rw [Nat.zero_pow (by have := hp.1; omega)]
  | a + 1 => by rw [hp.fresh, Nat.add_mod, hp.flt a, ← Nat.add_mod]

theorem mod_dvd {a b n : Nat} (h : a % n = b % n) : n ∣ b - a := Nat.dvd_of_mod_eq_zero (Nat.sub_mod_eq_zero_of_mod_eq h.symm)

theorem dvd_mod {a b n : Nat} (hle : a ≤ b) (h : n ∣ b - a) : b % n = a % n := by
  obtain ⟨c, hc⟩ := h
  rw [show b = a + n * c by omega, Nat.add_mul_mod_self_left]

/-- Fermat. -/
theorem Pri.fermat {p a : Nat} (hp : Pri p) (h : a % p ≠ 0) : a ^ (p - 1) % p = 1 := by
  have h1 := hp.flt a
  have hp2 := hp.1
  obtain ⟨n, rfl⟩ : ∃ n, p = n + 1 := ⟨p - 1, by omega⟩
  rw [Nat.pow_succ] at h1
  simp only [Nat.add_sub_cancel]
  have ha : 1 ≤ a ^ n := Nat.one_le_pow _ _ (by rcases Nat.eq_zero_or_pos a with e | e; subst e; simp at h; exact e)
  have hd : n + 1 ∣ (a ^ n - 1) * a := by
    rw [Nat.sub_mul, Nat.one_mul]
    exact mod_dvd h1.symm
  rcases hp.mul hd with h2 | h2
  · rw [dvd_mod ha h2]; exact Nat.mod_eq_of_lt hp2
  · exact absurd (Nat.mod_eq_zero_of_dvd h2) h

/-! ### Exponents -/

theorem pow_one_mul {g d a : Nat} (q : Nat) (h : g ^ a % d = 1 % d) : g ^ (a * q) % d = 1 % d := by
  rw [Nat.pow_mul, Nat.pow_mod, h, ← Nat.pow_mod, Nat.one_pow]

theorem pow_one_gcd {g d : Nat} : ∀ (a b : Nat), g ^ a % d = 1 % d → g ^ b % d = 1 % d → g ^ (Nat.gcd a b) % d = 1 % d := by
  intro a b
  induction a, b using Nat.gcd.induction with
  | H0 n => intro _ h; rw [Nat.gcd_zero_left]; exact h
  | H1 m n hm ih =>
    intro h1 h2
    rw [Nat.gcd_rec]
    refine ih ?_ h1
    have e : n = m * (n / m) + n % m := (Nat.div_add_mod n m).symm
    have h3 := pow_one_mul (n / m) h1
    conv at h2 => lhs; rw [e, Nat.pow_add]
    rw [Nat.mul_mod, h3, ← Nat.mul_mod, Nat.one_mul] at h2
    exact h2

theorem pock1 {Q m g d : Nat} (hQ : Pri Q) (hd : Pri d) (h1 : g ^ (Q * m) % d = 1) (h2 : g ^ m % d ≠ 1) : Q ∣ d - 1 := by
  rcases Classical.em (Q ∣ d - 1) with h | h
  · exact h
  exfalso
  have hd2 := hd.1
  have one : 1 % d = 1 := Nat.mod_eq_of_lt hd2
  have hm : m ≠ 0 := fun e => h2 (by rw [e, Nat.pow_zero, one])
  have hg : g % d ≠ 0 := fun e => by
    have : g ^ (Q * m) % d = 0 := by
      rw [Nat.pow_mod, e, Nat.zero_pow (Nat.mul_pos (by have := hQ.1; omega) (by omega))]; simp
    omega
  have h3 := pow_one_gcd (Q * m) (d - 1) (by rw [h1, one]) (by rw [hd.fermat hg, one])
  have hc : Nat.Coprime (d - 1) Q := (hQ.coprime h).symm
  have hdv : Nat.gcd (Q * m) (d - 1) ∣ m := (Nat.Coprime.coprime_dvd_left (Nat.gcd_dvd_right (Q * m) (d - 1)) hc).dvd_of_dvd_mul_left (Nat.gcd_dvd_left (Q * m) (d - 1))
  obtain ⟨q, hq⟩ := hdv
  have h4 := pow_one_mul q h3
  rw [← hq, one] at h4
  exact h2 h4

/-- Each number has a prime divisor. -/
theorem pri_div : ∀ (n : Nat), 2 ≤ n → ∃ d, Pri d ∧ d ∣ n := by
  intro n
  induction n using Nat.strongRecOn with
  | ind n ih =>
    intro h
    rcases Classical.em (Pri n) with hp | hp
    · exact ⟨n, hp, Nat.dvd_refl n⟩
    · have : ∃ d, d ∣ n ∧ d ≠ 1 ∧ d ≠ n := by
        rcases Classical.em (∃ d, d ∣ n ∧ d ≠ 1 ∧ d ≠ n) with h' | h'
        · exact h'
        · exact absurd ⟨h, fun d hd => Classical.byContradiction fun hne => h' ⟨d, hd, fun e => hne (.inl e), fun e => hne (.inr e)⟩⟩ hp
      obtain ⟨d, h1, h2, h3⟩ := this
      have hle := Nat.le_of_dvd (by omega) h1
      have hd0 : d ≠ 0 := fun e => by subst e; have := Nat.eq_zero_of_zero_dvd h1; omega
      obtain ⟨e, he, hed⟩ := ih d (by omega) (by omega)
      exact ⟨e, he, Nat.dvd_trans hed h1⟩

theorem pri_of_sqrt {n F : Nat} (hn : 2 ≤ n) (hF : n < F * F) (h : ∀ d, Pri d → d ∣ n → F ≤ d) : Pri n := by
  refine ⟨hn, fun d hd => ?_⟩
  rcases Nat.eq_zero_or_pos d with e | hd0
  · subst e; have := Nat.eq_zero_of_zero_dvd hd; omega
  obtain ⟨c, hc⟩ := hd
  rcases Nat.lt_or_ge d 2 with h1 | h1
  · exact .inl (by omega)
  rcases Nat.lt_or_ge c 2 with h2 | h2
  · right
    have : c = 1 := by
      rcases Nat.eq_zero_or_pos c with e | e
      · subst e; simp at hc; omega
      · omega
    subst this; omega
  exfalso
  obtain ⟨x, hx, hxd⟩ := pri_div d h1
  obtain ⟨y, hy, hyc⟩ := pri_div c h2
  have hx1 := h x hx (Nat.dvd_trans hxd ⟨c, hc⟩)
  have hy1 := h y hy (Nat.dvd_trans hyc ⟨d, by rw [hc, Nat.mul_comm]⟩)
  have a1 := Nat.le_of_dvd hd0 hxd
  have a2 := Nat.le_of_dvd (by omega) hyc
  have := Nat.mul_le_mul (Nat.le_trans hx1 a1) (Nat.le_trans hy1 a2)
  omega

/-! ### Powers, fast -/

def pwStep (m P b r : Nat) : Nat := if b = 1 then r * r % P * m % P else r * r % P

def pwm (m P : Nat) : Nat → Nat → Nat
  | 0, _ => 1 % P
  | k + 1, e => pwStep m P (e % 2) (pwm m P k (e / 2))

theorem pwm_eq (m P : Nat) : ∀ (k e : Nat), e < 2 ^ k → pwm m P k e = m ^ e % P
  | 0, e, h => by have : e = 0 := by simpa using h
                  subst this; rfl
  | k + 1, e, h => by
    have ih := pwm_eq m P k (e / 2) (by rw [Nat.pow_succ] at h; omega)
    simp only [pwm, ih, pwStep]
    split
    · next ho =>
      conv => rhs; rw [show e = e / 2 + e / 2 + 1 by omega, Nat.pow_succ, Nat.pow_add]
      simp [Nat.mul_mod]
    · next ho =>
      conv => rhs; rw [show e = e / 2 + e / 2 by omega, Nat.pow_add]
      simp [Nat.mul_mod]

/-- What is asked of one prime of n - 1. -/
def certB (n g Q m k : Nat) : Bool := Nat.beq (Q * m + 1) n && (Nat.ble (n + 1) (2 ^ k) && (Nat.beq (pwm g n k (Q * m)) 1 && Nat.beq (Nat.gcd (pwm g n k m + n - 1) n) 1))

theorem cert_dvd {n g Q m k d : Nat} (hn : 2 ≤ n) (hQ : Pri Q) (h : certB n g Q m k = true) (hd : Pri d) (hdn : d ∣ n) : Q ∣ d - 1 := by
  simp only [certB, Bool.and_eq_true] at h
  obtain ⟨e1, e2, e3, e4⟩ := h
  have e1 := Nat.eq_of_beq_eq_true e1
  have e2 := Nat.le_of_ble_eq_true e2
  have e3 := Nat.eq_of_beq_eq_true e3
  have e4 := Nat.eq_of_beq_eq_true e4
  have hQ2 := hQ.1
  have hmle : m ≤ Q * m := Nat.le_mul_of_pos_left m (by omega)
  rw [pwm_eq g n k (Q * m) (by omega)] at e3
  rw [pwm_eq g n k m (by omega)] at e4
  have hd2 := hd.1
  have one : 1 % d = 1 := Nat.mod_eq_of_lt hd2
  refine pock1 hQ hd (g := g) (m := m) ?_ fun h2 => ?_
  · rw [← Nat.mod_mod_of_dvd _ hdn, e3, one]
  · have h3 : g ^ m % n % d = 1 := by rw [Nat.mod_mod_of_dvd _ hdn]; exact h2
    generalize g ^ m % n = r at *
    have hdr : d ∣ r + n - 1 := by
      have hr : 1 ≤ r := by rcases Nat.eq_zero_or_pos r with e | e; subst e; simp at h3; exact e
      have : d ∣ r - 1 := mod_dvd (by rw [h3, one])
      have := Nat.dvd_add this hdn
      rwa [show r - 1 + n = r + n - 1 by omega] at this
    have := Nat.dvd_gcd hdr hdn
    rw [e4] at this
    have := Nat.le_of_dvd (by omega) this
    omega

theorem pri_one {n g Q m k : Nat} (hn : 2 ≤ n) (hQ : Pri Q) (h : certB n g Q m k = true) (hF : n < (Q + 1) * (Q + 1)) : Pri n :=
  pri_of_sqrt hn hF fun d hd hdn => by
    have := Nat.le_of_dvd (by have := hd.1; omega) (cert_dvd hn hQ h hd hdn)
    have := hd.1; omega

theorem pri_two {n g Q m k R m' : Nat} (hn : 2 ≤ n) (hQ : Pri Q) (hR : Pri R) (hne : Nat.Coprime Q R) (h : certB n g Q m k = true) (h' : certB n g R m' k = true) (hF : n < (Q * R + 1) * (Q * R + 1)) : Pri n :=
  pri_of_sqrt hn hF fun d hd hdn => by
    have h1 := cert_dvd hn hQ h hd hdn
    have h2 := cert_dvd hn hR h' hd hdn
    have := Nat.le_of_dvd (by have := hd.1; omega) (hne.mul_dvd_of_dvd_of_dvd h1 h2)
    have := hd.1; omega

/-- Small ones, by trial. -/
def trial (n : Nat) : Bool := Nat.ble 2 n && (List.range n).all fun d => Nat.ble d 1 || !(Nat.beq (n % d) 0)

theorem pri_trial {n : Nat} (h : trial n = true) : Pri n := by
  simp only [trial, Bool.and_eq_true, List.all_eq_true, List.mem_range] at h
  obtain ⟨h1, h2⟩ := h
  have h1 := Nat.le_of_ble_eq_true h1
  refine ⟨h1, fun d hd => ?_⟩
  have hle := Nat.le_of_dvd (by omega) hd
  rcases Nat.lt_or_ge d n with h | h
  · have := h2 d h
    have hm := Nat.mod_eq_zero_of_dvd hd
    rw [hm] at this
    simp at this
    have hd0 : d ≠ 0 := fun e => by subst e; have := Nat.eq_zero_of_zero_dvd hd; omega
    omega
  · exact .inr (by omega)

theorem pri_173 : Pri 173 := pri_trial (by decide +kernel)
theorem pri_1723 : Pri 1723 := pri_trial (by decide +kernel)
theorem pri_419 : Pri 419 := pri_trial (by decide +kernel)
theorem pri_97 : Pri 97 := pri_trial (by decide +kernel)
theorem pri_991 : Pri 991 := pri_trial (by decide +kernel)
theorem pri_103 : Pri 103 := pri_trial (by decide +kernel)
theorem pri_127 : Pri 127 := pri_trial (by decide +kernel)
theorem pri_4153 : Pri 4153 := pri_one (g := 2) (Q := 173) (m := 24) (k := 16) (by decide) pri_173 (by decide +kernel) (by decide)
theorem pri_430751 : Pri 430751 := pri_one (g := 2) (Q := 1723) (m := 250) (k := 20) (by decide) pri_1723 (by decide +kernel) (by decide)
theorem pri_31757755568855353 : Pri 31757755568855353 := pri_two (g := 2) (Q := 430751) (m := 73726481352) (R := 4153) (m' := 7646943310584) (k := 60) (by decide) pri_430751 pri_4153 (by decide) (by decide +kernel) (by decide +kernel) (by decide)
theorem pri_569003 : Pri 569003 := pri_two (g := 2) (Q := 419) (m := 1358) (R := 97) (m' := 5866) (k := 24) (by decide) pri_419 pri_97 (by decide) (by decide +kernel) (by decide +kernel) (by decide)
theorem pri_2773320623 : Pri 2773320623 := pri_one (g := 2) (Q := 569003) (m := 4874) (k := 40) (by decide) pri_569003 (by decide +kernel) (by decide)
theorem pri_72106336199 : Pri 72106336199 := pri_one (g := 2) (Q := 2773320623) (m := 26) (k := 40) (by decide) pri_2773320623 (by decide +kernel) (by decide)
theorem pri_8574133 : Pri 8574133 := pri_two (g := 2) (Q := 991) (m := 8652) (R := 103) (m' := 83244) (k := 24) (by decide) pri_991 pri_103 (by decide) (by decide +kernel) (by decide +kernel) (by decide)
theorem pri_1919519569386763 : Pri 1919519569386763 := pri_two (g := 2) (Q := 8574133) (m := 223873314) (R := 127) (m' := 15114327318006) (k := 60) (by decide) pri_8574133 pri_127 (by decide) (by decide +kernel) (by decide +kernel) (by decide)
theorem pri_q2 : Pri 75445702479781427272750846543864801 := pri_two (g := 2) (Q := 1919519569386763) (m := 39304471641247389600) (R := 72106336199) (m' := 1046311689884858398375200) (k := 120) (by decide) pri_1919519569386763 pri_72106336199 (by decide) (by decide +kernel) (by decide +kernel) (by decide)
theorem pri_q1 : Pri 74058212732561358302231226437062788676166966415465897661863160754340907 := pri_two (g := 2) (Q := 75445702479781427272750846543864801) (m := 981609426360740691344999861639072106) (R := 31757755568855353) (m' := 2331972502653487852620185443007392165117953542933313402) (k := 240) (by decide) pri_q2 pri_31757755568855353 (by decide) (by decide +kernel) (by decide +kernel) (by decide)
theorem pri_p : Pri 57896044618658097711785492504343953926634992332820282019728792003956564819949 := pri_one (g := 2) (Q := 74058212732561358302231226437062788676166966415465897661863160754340907) (m := 781764) (k := 256) (by decide) pri_q1 (by decide +kernel) (by decide)

end Go.Sx
