/-
  Add64: a function without a body.
-/
import Derived.Test.YtagooceoocohpaaSyV
import Derived.Laws.Externs
set_option linter.unusedVariables false
namespace Go.Sx

def add64 (a : Int × Int × Int) : Option (Int × Int) :=
  guardB (decide (a.2.2.toNat ≤ 1)) (some ((((a.1.toNat + a.2.1.toNat + a.2.2.toNat) % 2 ^ 64 : Nat) : Int), (((a.1.toNat + a.2.1.toNat + a.2.2.toNat) / 2 ^ 64 : Nat) : Int)))

theorem asInt_run {P : Program} {w : World} (k : IntKind) (n : Int) : (asInt (.int k n)).run P w = .ok n w := by
  simp [asInt, asIntOf]

theorem three_run {P : Program} {w : World} (a b c : Int) (h : c.toNat ≤ 1) : (Extern.MathBitsCarry.three "Add64" #[.int .u64 a, .int .u64 b, .int .u64 c]).run P w = .ok (a.toNat, b.toNat, c.toNat) w := by
  have h2 : ¬ c.toNat > 1 := by omega
  have e : Extern.MathBitsCarry.three "Add64" #[.int .u64 a, .int .u64 b, .int .u64 c] = (do
    let c := (← asInt (.int .u64 c)).toNat
    if c > 1 then unsupported (.noEntry ("extern/math/bits." ++ "Add64" ++ ": a carry that is neither 0 nor 1"))
    pure ((← asInt (.int .u64 a)).toNat, (← asInt (.int .u64 b)).toNat, c)) := by kernel_rfl
  rw [e]
  simp only [asInt_run, Sem.run_bind, Result.andThen_ok]
  rw [if_neg h2]
  simp only [asInt_run, Sem.run_bind, Sem.run_pure, Result.andThen_ok]

theorem add64_ok {P : Program} {K : FuncId} {fn : Func} (hf : P.funcs[K]? = some fn) (hname : (fn.name == "runtime.NumGoroutine") = false) (hb : fn.body.isNone = true) (hn : Extern.findNext fn = none)
    (he : Extern.find fn = some (fun args => do
      let (x, y, c) ← Extern.MathBitsCarry.three "Add64" args
      pure (Extern.MathBitsCarry.pair ((x + y + c) % Extern.MathBitsCarry.m64) ((x + y + c) / Extern.MathBitsCarry.m64)))) :
    Ctr.ok P { K := K, ins := [⟨false, [.ty (.int .u64)]⟩, ⟨false, [.ty (.int .u64)]⟩, ⟨false, [.ty (.int .u64)]⟩], outs := [⟨false, [.ty (.int .u64)]⟩, ⟨false, [.ty (.int .u64)]⟩], f := add64 } := by
  intro x y hy w vs hargs
  obtain ⟨a, b, c⟩ : Int × Int × Int := x
  obtain ⟨v1, r1, rfl, h1, v2, r2, rfl, h2, v3, rfl, h3⟩ := hargs
  have h1 : v1 = .int .u64 a := by have h : [v1] = [Value.int .u64 a] := h1; simpa using h
  have h2 : v2 = .int .u64 b := by have h : [v2] = [Value.int .u64 b] := h2; simpa using h
  have h3 : v3 = .int .u64 c := by have h : [v3] = [Value.int .u64 c] := h3; simpa using h
  subst h1 h2 h3
  obtain ⟨hc, e⟩ := guardB_some hy
  cases e
  have hc : Int.toNat c ≤ 1 := of_decide_eq_true hc
  refine .inr ⟨[.int .u64 (((a.toNat + b.toNat + c.toNat) % 2 ^ 64 : Nat) : Int), .int .u64 (((a.toNat + b.toNat + c.toNat) / 2 ^ 64 : Nat) : Int)], w, ?_, Old.refl _ w, [], ?_⟩
  · rw [run_callFunc_extern hf hname hb hn he]
    have e : ([Value.int .u64 a, Value.int .u64 b, Value.int .u64 c] : List Value).toArray = #[.int .u64 a, .int .u64 b, .int .u64 c] := rfl
    rw [e]
    simp only [Sem.run_bind, three_run a b c hc, Result.andThen_ok, Sem.run_pure]
    rfl
  · exact ⟨_, _, [], rfl, ⟨rfl, rfl⟩, _, rfl, ⟨rfl, rfl⟩⟩

end Go.Sx
