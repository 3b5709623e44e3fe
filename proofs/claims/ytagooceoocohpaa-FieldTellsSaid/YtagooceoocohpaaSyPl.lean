/-
  Plain laws: what a translated function hands back.
-/
import Derived.Test.YtagooceoocohpaaSyU
set_option linter.unusedVariables false
namespace Go.Sx

def Ret {R : Type} (m : Option R) (Q : R → Prop) : Prop := ∃ r, m = some r ∧ Q r

theorem ret_some {R : Type} {r : R} {Q : R → Prop} (h : Q r) : Ret (some r) Q := ⟨r, rfl, h⟩
theorem ret_let {α R : Type} {x : α} {k : α → Option R} {Q : R → Prop} (h : Ret (k x) Q) : Ret (letK x k) Q := h
theorem ret_guard {R : Type} {b : Bool} {x : Option R} {Q : R → Prop} (h : b = true) (h' : Ret x Q) : Ret (guardB b x) Q := by subst h; exact h'
theorem ret_sel {R : Type} {b : Bool} {x y : Option R} {Q : R → Prop} (h : b = true → Ret x Q) (h' : b = false → Ret y Q) : Ret (sel b x y) Q := by cases b; exact h' rfl; exact h rfl
theorem ret_bind {α R : Type} {m : Option α} {k : α → Option R} {Q : R → Prop} {M : α → Prop} (h : Ret m M) (h' : ∀ x, M x → Ret (k x) Q) : Ret (bindK m k) Q := by
  obtain ⟨x, rfl, hx⟩ := h; exact h' x hx
theorem Ret.mono {R : Type} {m : Option R} {Q Q' : R → Prop} (h : Ret m Q) (h' : ∀ r, Q r → Q' r) : Ret m Q' := by obtain ⟨r, e, hr⟩ := h; exact ⟨r, e, h' r hr⟩
theorem Ret.eq {R : Type} {m : Option R} {r : R} (h : Ret m (· = r)) : m = some r := by obtain ⟨_, e, rfl⟩ := h; exact e

/-- **A loop.** -/
theorem ret_loopN {σ R : Type} {B : (σ → Option R) → σ → Option R} {Q : R → Prop} (I : σ → Prop) (μ : σ → Nat) (step : ∀ self x, I x → (∀ y, I y → μ y < μ x → Ret (self y) Q) → Ret (B self x) Q) :
    ∀ (n : Nat) (x : σ), I x → μ x < n → Ret (loopN B n x) Q
  | 0, x, _, h => absurd h (Nat.not_lt_zero _)
  | n + 1, x, hx, h => step _ x hx fun y hy hlt => ret_loopN I μ step n y hy (by omega)

theorem ret_loop {σ R : Type} {B : (σ → Option R) → σ → Option R} {Q : R → Prop} {x : σ} (I : σ → Prop) (μ : σ → Nat) (hx : I x) (hμ : μ x ≤ 18446744073709551616) (step : ∀ self x, I x → (∀ y, I y → μ y < μ x → Ret (self y) Q) → Ret (B self x) Q) :
    Ret (loopN B fuel x) Q := ret_loopN I μ step fuel x hx (by rw [fuel_eq]; omega)

theorem fuel_split (k : Nat) (h : k ≤ 1000000 := by decide) : ∃ m, fuel = m + k := ⟨fuel - k, by rw [fuel_eq]; omega⟩

theorem loopN_succ {σ R : Type} (B : (σ → Option R) → σ → Option R) (n : Nat) (x : σ) : loopN B (n + 1) x = B (loopN B n) x := rfl

theorem sel_ite {R : Type} (b : Bool) (x y : Option R) : sel b x y = if b = true then x else y := by cases b <;> rfl
theorem guard_ite {R : Type} (b : Bool) (x : Option R) : guardB b x = if b = true then x else none := by cases b <;> rfl
theorem letK_def {α R : Type} (x : α) (k : α → Option R) : letK x k = k x := rfl

end Go.Sx
