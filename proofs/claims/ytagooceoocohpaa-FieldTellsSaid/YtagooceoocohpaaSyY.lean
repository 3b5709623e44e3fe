/-
  A law's statement out of its contract.
-/
import Derived.Test.YtagooceoocohpaaSyX
set_option linter.unusedVariables false
namespace Go.Sx
open Go.ChangeShapes Go.WideShapes Go.ChangeAt Go.RowKit

def chkIns (P : Program) (bo : Ty → Nat) : List TypeId → List PT → Bool
  | [], [] => true
  | t :: ts, p :: ps => (p.agg == isAggB P t) && ((match chkP P bo 12 t p.ts with | some [] => true | _ => false) && chkIns P bo ts ps)
  | _, _ => false

section
variable {H : Type} {enc : TypeId × Value → H} {P : Program} {w : World} {held : Bool}

theorem opens_param {bo : Ty → Nat} {t : TypeId} {p : PT} {v : Value} {d : DataW H} {ps : List MemPlace} {b0 : Nat} (hagg : p.agg = isAggB P t) (hc : chkP P bo 12 t p.ts = some []) (hval : Value.okWide P w .any b0 t v)
    (ht : DataW.Trod enc P w 0 (fun _ => true) held t v d ps) (hw : ∀ n ∈ d.weights P t, n ≤ reachBytes) : ∃ x : Dens p.ts, DeepP w p x v ∧ Dens.wf bo p.ts x := by
  obtain ⟨fuel, ht⟩ := ht
  obtain ⟨agg, ts⟩ := p
  simp only at hagg hc
  have hsome : (P.underlying t).isSome = true := by
    unfold chkP at hc
    cases hu : P.underlying t with
    | none => rw [hu] at hc; cases hc
    | some d => rfl
  obtain ⟨td, htd⟩ := Option.isSome_iff_exists.1 hsome
  cases ha : isAggB P t with
  | true =>
    rw [ha] at hagg; subst hagg
    have hform : ∃ cs : Array Value, v = .agg cs ∧ cs.size = P.cellsOf t := by
      unfold isAggB at ha
      rw [htd] at ha
      unfold Value.okWide at hval
      rw [htd] at hval
      split at ha <;> first | (obtain ⟨cs, h1, h2, _⟩ := hval; exact ⟨cs, h1, h2⟩) | cases ha | skip
      all_goals
        rename_i e
        cases e
        obtain ⟨cs, h1, h2, _⟩ := hval
        exact ⟨cs, h1, h2⟩
    obtain ⟨cs, rfl, hsz⟩ := hform
    simp only [Value.cells] at ht
    obtain ⟨xs, e, d1, w1⟩ := opens_p 12 t ts [] fuel cs.toList d ps hc (by simpa using hsz) ht hw
    rw [List.append_nil] at e
    subst e
    obtain ⟨x, g1, g2⟩ := DeepS.dens xs _ d1 w1
    exact ⟨x, by unfold DeepP; rw [if_pos rfl]; exact ⟨cs.toList, by simp, g1⟩, g2⟩
  | false =>
    rw [ha] at hagg; subst hagg
    have hone : v.cells = #[v] ∧ P.cellsOf t = 1 := by
      unfold chkP at hc
      rw [htd] at hc
      unfold isAggB at ha
      rw [htd] at ha
      have hleaf : leafP P 1 t ts = some [] → P.cellsOf t = 1 := fun h => by
        unfold leafP at h
        split at h
        · next T r' =>
          split at h
          · next hc => exact hc.2 rfl
          · cases h
        · cases h
      cases td <;> simp only at hc ha <;> first | (cases ha; done) | (cases hc; done) | skip
      · obtain ⟨b, rfl⟩ := okWide_bool htd hval; exact ⟨rfl, hleaf hc⟩
      · obtain ⟨b, rfl⟩ := okWide_int htd hval; exact ⟨rfl, hleaf hc⟩
      · obtain ⟨b, rfl⟩ := okWide_string htd hval; exact ⟨rfl, hleaf hc⟩
      · obtain ⟨a, l, c, rfl⟩ := okWide_slice htd hval
        refine ⟨rfl, ?_⟩
        split at hc
        · split at hc
          · next h => exact h.2.2.2.1
          · cases hc
        · cases hc
    rw [hone.1] at ht
    obtain ⟨xs, e, d1, w1⟩ := opens_p 12 t ts [] fuel [v] d ps hc (by rw [hone.2]; rfl) ht hw
    rw [List.append_nil] at e
    subst e
    obtain ⟨x, g1, g2⟩ := DeepS.dens xs _ d1 w1
    exact ⟨x, by unfold DeepP; rw [if_neg (by simp)]; exact g1, g2⟩

theorem opens_ins {bo : Ty → Nat} {b0 : Nat} : ∀ (ts : List TypeId) (ps : List PT) (vs : List Value) (ds : List (DataW H)) (pl : List MemPlace), chkIns P bo ts ps = true → DataW.TrodAll enc P w 0 (fun _ => true) held ts vs ds pl →
    (∀ (j : Nat) (t : TypeId) (v : Value), ts[j]? = some t → vs[j]? = some v → Value.okWide P w .any b0 t v) → (∀ n ∈ DataW.weightsEach P ts ds, n ≤ reachBytes) → ∃ x : PDen ps, ArgsIn w ps x vs ∧ PDen.wf bo ps x ∧ ds.length = ps.length
  | [], [], vs, ds, pl, hc, ht, hv, hw => by
    obtain ⟨rfl, rfl, rfl⟩ := trodAll_nil ht
    exact ⟨(), rfl, trivial, rfl⟩
  | [], _ :: _, _, _, _, hc, _, _, _ => by cases hc
  | _ :: _, [], _, _, _, hc, _, _, _ => by cases hc
  | t :: ts, [p], vs, ds, pl, hc, ht, hv, hw => by
    simp only [chkIns, Bool.and_eq_true, beq_iff_eq] at hc
    obtain ⟨h1, h2, h3⟩ := hc
    have e : ts = [] := by cases ts with | nil => rfl | cons _ _ => cases h3
    subst e
    split at h2
    · next hcp =>
      obtain ⟨v, vs', d, ds', q, q', rfl, rfl, rfl, g1, g2⟩ := trodAll_cons ht
      obtain ⟨rfl, rfl, rfl⟩ := trodAll_nil g2
      simp only [DataW.weightsEach, List.append_nil] at hw
      obtain ⟨x, k1, k2⟩ := opens_param h1 hcp (hv 0 t v rfl rfl) g1 hw
      exact ⟨x, ⟨v, rfl, k1⟩, k2, rfl⟩
    · cases h2
  | t :: ts, p :: r :: ps, vs, ds, pl, hc, ht, hv, hw => by
    simp only [chkIns, Bool.and_eq_true, beq_iff_eq] at hc
    obtain ⟨h1, h2, h3⟩ := hc
    split at h2
    · next hcp =>
      obtain ⟨v, vs', d, ds', q, q', rfl, rfl, rfl, g1, g2⟩ := trodAll_cons ht
      simp only [DataW.weightsEach, List.mem_append] at hw
      obtain ⟨x, k1, k2⟩ := opens_param h1 hcp (hv 0 t v rfl rfl) g1 fun n hn => hw n (.inl hn)
      obtain ⟨y, m1, m2, m3⟩ := opens_ins ts (r :: ps) vs' ds' q' h3 g2 (fun j t' v' hj hj' => hv (j + 1) t' v' (by simpa using hj) (by simpa using hj')) fun n hn => hw n (.inr hn)
      exact ⟨(x, y), ⟨v, vs', rfl, k1, m1⟩, ⟨k2, m2⟩, by simp at m3 ⊢; exact m3⟩
    · cases h2

def rowsOk (P : Program) (ts : List TypeId) : Bool := ts.all fun t => P.readableRec t && decide (t < P.types.size)

theorem below_all (hl : laidOutB P = true) {W W' : World} (hb : Below W.heap.size W W') : ∀ (ts : List TypeId) (vs : List Value) (ds : List (DataW H)) (ps : List MemPlace), rowsOk P ts = true →
    DataW.TrodAll enc P W 0 (fun _ => true) true ts vs ds ps → DataW.TrodAll enc P W' 0 (fun b => decide (b < W.heap.size)) true ts vs ds ps
  | [], vs, ds, ps, _, h => by
    obtain ⟨rfl, rfl, rfl⟩ := trodAll_nil h
    exact trodAll_mk0
  | t :: ts, vs, ds, ps, hr, h => by
    simp only [rowsOk, List.all_cons, Bool.and_eq_true, decide_eq_true_eq] at hr
    obtain ⟨v, vs', d, ds', q, q', rfl, rfl, rfl, g1, g2⟩ := trodAll_cons h
    have lt : ∀ x ∈ q, x.block < W.heap.size := by obtain ⟨m, hm⟩ := g1; exact DataW.trod_lt m _ _ _ hm
    exact trodAll_cons_mk (Below.trod hl hr.1.1 hr.1.2 g1 hb lt) (below_all hl hb ts vs' ds' q' hr.2 g2)

end

theorem below_of_old {w w' : World} (h : Old (fun _ => False) w w') : Below w.heap.size w w' := ⟨h.os, h.tape, h.output, h.size, fun k hk => h.block k hk (fun f => f)⟩

/-- **The law's contract is what its statement asks.** -/
theorem law_calls {H : Type} {enc : TypeId × Value → H} {P : Program} {fn : Func} {s : ChangeSpec} {K : FuncId} {ins : List PT} {tb : TypeId} {bo : Ty → Nat} (hl : laidOutB P = true)
    (f : PDen ins → Option Bool) (hok : Ctr.ok P { K := K, ins := ins, outs := [⟨false, [.ty .bool]⟩], f := f }) (hfn : P.funcs[K]? = some fn) (hnm : (fn.name == "runtime.NumGoroutine") = false) (hbody : fn.body.isNone = false)
    (hins : chkIns P bo fn.params.toList ins = true) (hrows : rowsOk P fn.params.toList = true) (hres : fn.resultTypes = #[tb]) (htb : P.underlying tb = some .bool) (htrue : ∀ x, PDen.wf bo ins x → f x = some true)
    (hvars : s.vars = []) (hspec : ∀ ds : List (DataW H), ds.length = ins.length → s.fn H ds = { results := [.lit (.bool true)], args := ds })
    (W : World) (base : Nat) (args : Array Value) (ds gs : List (DataW H)) (before : List MemPlace)
    (hval : ∀ (j : Nat) t v, fn.params[j]? = some t → args[j]? = some v → Value.okWide P W .any base t v)
    (hW : DataW.Whole enc P fn.params.toList s.vars false W args.toList ds gs before)
    (hsz : (DataW.weightsEach P (fn.params.toList ++ s.plain.varTypes P) (ds ++ gs)).all (· ≤ reachBytes) = true) :
    Calls P K args W fun e W' => ∃ v, e = .returned v ∧ s.post enc P fn false true false false W args v W' := by
  have hW' := hW
  obtain ⟨p, q, hA, hV, rfl, hfz, hnd⟩ := hW
  rw [hvars] at hV
  obtain ⟨rfl, rfl⟩ := trodVars_none hV
  have hvt : s.plain.varTypes P = [] := by
    unfold ChangeSpec.plain DataSpec.varTypes
    simp [hvars]
  rw [hvt, List.append_nil, List.append_nil] at hsz
  obtain ⟨x, h1, h2, h3⟩ := opens_ins (b0 := base) fn.params.toList ins args.toList ds p hins hA (fun j t v hj hv => hval j t v (by simpa using hj) (by simpa using hv)) fun n hn => of_decide_eq_true (List.all_eq_true.1 hsz n hn)
  rcases hok x true (htrue x h2) W args.toList h1 with ⟨_, hcalls⟩ | ⟨rs, w', hcf, _⟩
  · simp only [Array.toArray_toList] at hcalls
    refine hcalls.mono fun e W' ⟨rs, he, hold, seen, hnew⟩ => ?_
    subst he
    obtain ⟨v, rfl, hv⟩ := hnew
    have hv : v = .bool true := by
      unfold NewP at hv
      rw [if_neg (by simp)] at hv
      have : [v] = [Value.bool true] := hv.1
      simpa using this
    subst hv
    have bel := below_of_old hold
    refine ⟨.bool true, rfl, ds, [], p ++ [], [], p, [], hW', ?_, ?_, ?_, bel.frame _, fun h => by cases h⟩
    · rw [List.append_nil, hspec ds h3, hres]
      exact trodAll_mk1 (shut_bool htb true)
    · rw [List.append_nil, hspec ds h3]
      exact below_all hl bel _ _ _ _ hrows hA
    · rw [List.append_nil, hspec ds h3, hvars]
      rfl
  · rw [callFunc_enter hfn hnm hbody] at hcf
    cases hcf

theorem Env.ok_nil {P : Program} : Env.ok ⟨P, []⟩ := fun c hc => by cases hc
theorem Env.ok_cons {P : Program} {C : Ctr} {l : List Ctr} (h : C.ok P) (h' : Env.ok ⟨P, l⟩) : Env.ok ⟨P, C :: l⟩ := fun c hc => by
  rcases List.mem_cons.1 hc with rfl | hc
  · exact h
  · exact h' c hc

/-- A contract out of a body's evaluation: all but the last by computation. -/
theorem Ctr.of_ev {P : Program} {Cs : List Ctr} (hE : Env.ok ⟨P, Cs⟩) (hm : P.follows .mixedOrders = true) {K : FuncId} {ins outs : List PT} {F : PDen ins → Option (PDen outs)} {fn : Func} {body : Code} {rv : List ResultVar} {n : Nat} {O : List (Nat × Orc)}
    (hf : P.funcs[K]? = some fn) (hnm : (fn.name == "runtime.NumGoroutine") = false) (hb : fn.body = some body) (hres : fn.results.toList = rv) (hn : fn.ntmps = n) (hle : Nat.ble ins.length n = true)
    (ev : ∀ a, evK ⟨P, Cs⟩ O body 0 ⟨[], [], kRet P { K := K, ins := ins, outs := outs, f := fun _ => none } rv⟩ (kRet P { K := K, ins := ins, outs := outs, f := fun _ => none } rv) (initSt ins a n) = F a) :
    Ctr.ok P { K := K, ins := ins, outs := outs, f := F } := by
  subst hn
  have e : (kRet P { K := K, ins := ins, outs := outs, f := F } rv : St → Option (PDen outs)) = kRet P { K := K, ins := ins, outs := outs, f := fun _ => none } rv := by
    kernel_rfl
  refine Ctr.of_body (E := ⟨P, Cs⟩) hE hm _ O hf hnm hb hres (Nat.le_of_ble_eq_true hle) fun x y h => ?_
  show evK ⟨P, Cs⟩ O body 0 ⟨[], [], (kRet P { K := K, ins := ins, outs := outs, f := F } rv : St → Option (PDen outs))⟩ (kRet P { K := K, ins := ins, outs := outs, f := F } rv : St → Option (PDen outs)) (initSt ins x fn.ntmps) = some y
  rw [e]
  exact (ev x).trans h

end Go.Sx
namespace Go.Sx

theorem bytes_range {n : Nat} {x : Nat → Int} (h : ∀ i, i < n → IntKind.u8.min ≤ x i ∧ x i ≤ IntKind.u8.max) : ∀ i, i < n → 0 ≤ x i ∧ x i < 256 := fun i hi => by
  have := h i hi
  simp [IntKind.min, IntKind.max, IntKind.signed, IntKind.bits] at this
  omega

/-- An element's bytes, by its type. -/
def boT : Ty → Nat
  | .int .u8 | .int .i8 | .bool => 1
  | .int .u16 | .int .i16 => 2
  | .int .u32 | .int .i32 => 4
  | .int _ => 8
  | .str => 16
  | .arr .u8 n => n
  | .arr .u32 n => 4 * n
  | .arr _ n => 8 * n
  | .pair a b => boT a + boT b

def key0 : Value := .agg (List.replicate 32 (Value.int .u8 0)).toArray

end Go.Sx
