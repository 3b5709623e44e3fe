/-
  The evaluator: code on abstract states, in continuation passing style.
-/
import Derived.Test.YtagooceoocohpaaSyS
import Derived.LoopN
set_option linter.unusedVariables false
namespace Go.Sx

def guardB {R : Type} (b : Bool) (x : Option R) : Option R := match b with | true => x | false => none

theorem guardB_some {R : Type} {b : Bool} {x : Option R} {r : R} (h : guardB b x = some r) : b = true ∧ x = some r := by
  cases b with
  | true => exact ⟨rfl, h⟩
  | false => cases h

def bindK {α R : Type} (m : Option α) (k : α → Option R) : Option R := match m with | some x => k x | none => none

theorem bindK_some {α R : Type} {m : Option α} {k : α → Option R} {r : R} (h : bindK m k = some r) : ∃ x, m = some x ∧ k x = some r := by
  cases m with
  | none => cases h
  | some x => exact ⟨x, rfl, h⟩

def sel {R : Type} (b : Bool) (x y : Option R) : Option R := match b with | true => x | false => y

def letK {α R : Type} (x : α) (k : α → Option R) : Option R := k x

def letC {R : Type} (c : Ck) (k : Ck → Option R) : Option R := match c with
  | .int t x => letK x fun x => k (.int t x)
  | .bool b => letK b fun b => k (.bool b)
  | .str s => letK s fun s => k (.str s)
  | .arr t n f => letK f fun f => k (.arr t n f)
  | .nilp => k .nilp
  | .nils => k .nils
  | .nilm => k .nilm
  | .nilf => k .nilf
  | .fn f => k (.fn f)
  | .clo f l => k (.clo f l)
  | .ptr i o => k (.ptr i o)
  | .pel i o n e => k (.pel i o n e)
  | .pls i z e f => k (.pls i z e f)
  | .sl i => k (.sl i)
  | .win i z a b => k (.win i z a b)
  | .awin i o n a b => k (.awin i o n a b)
  | .mp i => k (.mp i)
  | .unk n => k (.unk n)

theorem letC_eq {R : Type} (c : Ck) (k : Ck → Option R) : letC c k = k c := by cases c <;> rfl

/-- What is reckoned gets a name. -/
def letV {R : Type} (v : SV) (k : SV → Option R) : Option R := match v with
  | .sc c => letC c fun c => k (.sc c)
  | .agg [c] => letC c fun c => k (.agg [c])
  | v => k v

theorem letV_eq {R : Type} (v : SV) (k : SV → Option R) : letV v k = k v := by
  unfold letV
  split <;> first | exact letC_eq _ _ | rfl

def letO {R : Type} (o : AObj) (k : AObj → Option R) : Option R := match o with
  | .var [c] => letC c fun c => k (.var [c])
  | .list T xs ow => letK xs fun xs => k (.list T xs ow)
  | o => k o

theorem letO_eq {R : Type} (o : AObj) (k : AObj → Option R) : letO o k = k o := by
  unfold letO
  split <;> first | exact letC_eq _ _ | rfl

def putK {R : Type} (s : St) (dst : Option Tmp) (v : SV) (k : St → Option R) : Option R :=
  match putD s dst v with
  | some s' => k s'
  | none => none

def finK {R : Type} (E : Env) (s : St) (o : Oper) (v : SV) (adds : List (Nat × AObj)) (k : St → Option R) : Option R :=
  match fin E s o v adds with
  | some s' => k s'
  | none => none

def stepWK {R : Type} (E : Env) (s : St) (o : Oper) (k : St → Option R) : Option R :=
  match clOf E o.op with
  | .store => (match storeOp E.P s.opv s.mem.objs o.op with
    | some (b, i, ob) => (match inAll ob.ids (seeIds E s o) with
      | true => guardB b (letO ob fun ob => putK { s with mem := s.mem.set i ob } o.dst (.tup []) k)
      | false => none)
    | none => none)
  | .append => (match appendOp E.P s.opv s.mem.objs o.op with
    | some (b, i, ob) => (match s.mem.used (nid o) with
      | false => guardB b (letO ob fun ob => putK { s with mem := (s.mem.del i).add (nid o) ob } o.dst (.sc (.sl (nid o))) k)
      | true => none)
    | none => none)
  | .copy => (match copyOp E.P s.opv s.mem.objs o.op with
    | some (b, r, i, ob) => (match inAll ob.ids (seeIds E s o) with
      | true => guardB b (letO ob fun ob => letK r fun r => putK { s with mem := s.mem.set i ob } o.dst (.sc (.int .i64 r)) k)
      | false => none)
    | none => none)
  | _ => none

def clearK {R : Type} (s : St) (k : St → Option R) : Option R := match s.mem.tmps with
  | [] => k s
  | l => k (s.clear l)

theorem clearK_eq {R : Type} (s : St) (k : St → Option R) : clearK s k = k s.clearT := by
  unfold clearK St.clearT
  cases s.mem.tmps <;> rfl

def stepK {R : Type} (E : Env) (s : St) (o : Oper) (k : St → Option R) : Option R :=
  match clOf E o.op with
  | .store => clearK s fun s => stepWK E s o k
  | .append => clearK s fun s => stepWK E s o k
  | .copy => clearK s fun s => stepWK E s o k
  | .other => none
  | .pure => (match pureOp E.P s.opv o.op with | some (b, v) => guardB b (letV v fun v => finK E s o v [] k) | none => none)
  | .read => (match readOp E.P s.opv s.mem.objs o.op with | some (b, v) => guardB b (letV v fun v => finK E s o v [] k) | none => none)
  | .new => (match newOp E.P s.opv s.mem.objs o.op with | some (b, ob) => guardB b (letO ob fun ob => finK E s o (ob.refTo (nid o)) [(nid o, ob)] k) | none => none)
  | .call C => (match decPTs s.mem.objs C.ins ((callArgs o.op).map s.opv) with
    | some (b, x) => guardB b (bindK (C.f x) fun y => finK E s o (resSV (encPTs (nid o + 1) C.outs y).1) (encPTs (nid o + 1) C.outs y).2.1 k)
    | none => none)

theorem putK_some {R : Type} {s : St} {dst : Option Tmp} {v : SV} {k : St → Option R} {r : R} (h : putK s dst v k = some r) : ∃ s', putD s dst v = some s' ∧ k s' = some r := by
  unfold putK at h
  split at h
  · next s' hs => exact ⟨s', hs, h⟩
  · cases h

theorem finK_some {R : Type} {E : Env} {s : St} {o : Oper} {v : SV} {adds : List (Nat × AObj)} {k : St → Option R} {r : R} (h : finK E s o v adds k = some r) : ∃ s', fin E s o v adds = some s' ∧ k s' = some r := by
  unfold finK at h
  split at h
  · next s' hs => exact ⟨s', hs, h⟩
  · cases h

section
variable {R : Type} {E : Env} {φ : Nat → Place} {s s' : St} {w0 : World} {F : Fp} {a : Act} {w : World} {ops : Array Oper} {k : St → Option R} {r : R}

theorem stepWK_some {o : Oper} (h : stepWK E s o k = some r) : ∃ s', stepW E s o = some s' ∧ k s' = some r := by
  unfold stepWK at h
  unfold stepW
  split at h
  · next hc =>
    rw [hc]
    simp only
    split at h
    · next b i ob ho =>
      split at h
      · next hin =>
        obtain ⟨rfl, h⟩ := guardB_some h
        rw [letO_eq] at h
        obtain ⟨s', h1, h2⟩ := putK_some h
        exact ⟨s', by rw [ho]; simp only [hin, if_true]; exact h1, h2⟩
      · cases h
    · cases h
  · next hc =>
    rw [hc]
    simp only
    split at h
    · next b i ob ho =>
      split at h
      · next hin =>
        obtain ⟨rfl, h⟩ := guardB_some h
        rw [letO_eq] at h
        obtain ⟨s', h1, h2⟩ := putK_some h
        exact ⟨s', by rw [ho]; simp only [hin, if_true]; exact h1, h2⟩
      · cases h
    · cases h
  · next hc =>
    rw [hc]
    simp only
    split at h
    · next b r i ob ho =>
      split at h
      · next hin =>
        obtain ⟨rfl, h⟩ := guardB_some h
        rw [letO_eq] at h
        obtain ⟨s', h1, h2⟩ := putK_some (k := k) (show putK _ _ _ k = some _ from h)
        exact ⟨s', by rw [ho]; simp only [hin, if_true]; exact h1, h2⟩
      · cases h
    · cases h
  · cases h

theorem stepK_some {o : Oper} (h : stepK E s o k = some r) : ∃ s', step E s o = some s' ∧ k s' = some r := by
  unfold stepK at h
  unfold step
  split at h
  · next hc => rw [hc]; rw [clearK_eq] at h; exact stepWK_some h
  · next hc => rw [hc]; rw [clearK_eq] at h; exact stepWK_some h
  · next hc => rw [hc]; rw [clearK_eq] at h; exact stepWK_some h
  · cases h
  · next hc =>
    rw [hc]
    simp only [prn, hc]
    split at h
    · next b v ho =>
      obtain ⟨rfl, h⟩ := guardB_some h
      first | rw [letV_eq] at h | rw [letO_eq] at h
      obtain ⟨s', h1, h2⟩ := finK_some h
      exact ⟨s', by rw [ho]; exact h1, h2⟩
    · cases h
  · next hc =>
    rw [hc]
    simp only [prn, hc]
    split at h
    · next b v ho =>
      obtain ⟨rfl, h⟩ := guardB_some h
      first | rw [letV_eq] at h | rw [letO_eq] at h
      obtain ⟨s', h1, h2⟩ := finK_some h
      exact ⟨s', by rw [ho]; exact h1, h2⟩
    · cases h
  · next hc =>
    rw [hc]
    simp only [prn, hc]
    split at h
    · next b v ho =>
      obtain ⟨rfl, h⟩ := guardB_some h
      first | rw [letV_eq] at h | rw [letO_eq] at h
      obtain ⟨s', h1, h2⟩ := finK_some h
      exact ⟨s', by rw [ho]; exact h1, h2⟩
    · cases h
  · next C hc =>
    rw [hc]
    simp only [prn, hc]
    split at h
    · next b x ho =>
      obtain ⟨rfl, h⟩ := guardB_some h
      cases hy : C.f x with
      | none => rw [hy] at h; cases h
      | some y =>
        rw [hy] at h
        obtain ⟨s', h1, h2⟩ := finK_some h
        exact ⟨s', by rw [ho]; simp only [hy]; exact h1, h2⟩
    · cases h

def gstepK {R : Type} (E : Env) (ops : Array Oper) (s : St) (o : Oper) (k : St → Option R) : Option R :=
  match o.guard with
  | none => stepK E s o k
  | some (g, want) => match (ops[g]?).bind (·.dst) with
    | some t => (match s.fr t with
      | .sc (.bool b) => (match want with
        | true => sel b (stepK E (s.put t (.sc (.bool true))) o k) (putK (s.put t (.sc (.bool false))) o.dst (.tup []) k)
        | false => sel b (putK (s.put t (.sc (.bool true))) o.dst (.tup []) k) (stepK E (s.put t (.sc (.bool false))) o k))
      | .tup [] => putK s o.dst (.tup []) k
      | _ => none)
    | none => none

theorem put_same {s : St} {t : Nat} {v : SV} (h : s.fr t = v) : s.put t v = s := by
  cases s with
  | mk fr n mem =>
    simp only [St.put, St.mk.injEq, and_true]
    funext u
    split
    · next e => subst e; exact h.symm
    · rfl

theorem gstepK_some {o : Oper} (h : gstepK E ops s o k = some r) : ∃ s', gstep E ops s o = some s' ∧ k s' = some r := by
  unfold gstepK at h
  unfold gstep
  split at h
  · next hg => rw [hg]; exact stepK_some h
  · next g want hg =>
    rw [hg]
    simp only
    split at h
    · next t ht =>
      rw [ht]
      simp only
      split at h
      · next b hb =>
        rw [hb]
        simp only
        cases want <;> cases b <;> simp only [sel] at h <;> rw [put_same hb] at h
        · exact stepK_some h
        · exact putK_some h
        · exact putK_some h
        · exact stepK_some h
      · next hb => rw [hb]; exact putK_some h
      · cases h
    · cases h

def runLK {R : Type} (E : Env) (ops : Array Oper) : List Oper → (St → Option R) → St → Option R
  | [], k, s => k s
  | o :: r, k, s => gstepK E ops s o fun s' => runLK E ops r k s'

theorem runLK_some : ∀ (l : List Oper) {s : St}, runLK E ops l k s = some r → ∃ s', runL E ops l s = some s' ∧ k s' = some r
  | [], s, h => ⟨s, rfl, h⟩
  | o :: l, s, h => by
    simp only [runLK] at h
    obtain ⟨s1, h1, h2⟩ := gstepK_some h
    obtain ⟨s2, h3, h4⟩ := runLK_some l h2
    exact ⟨s2, by simp only [runL, h1, Option.bind_some]; exact h3, h4⟩

def runTK {R : Type} (E : Env) (ops : Array Oper) : List Oper → List Tch → (List Tch → St → Option R) → St → Option R
  | [], ts, k, s => k ts s
  | o :: r, ts, k, s => gstepK E ops s o fun s' => runTK E ops r (ts ++ [tch E s o]) k s'

theorem runTK_some {k : List Tch → St → Option R} : ∀ (l : List Oper) {ts : List Tch} {s : St}, runTK E ops l ts k s = some r → ∃ s', runL E ops l s = some s' ∧ k (ts ++ tchs E ops l s) s' = some r
  | [], ts, s, h => ⟨s, rfl, by simpa [tchs, runTK] using h⟩
  | o :: l, ts, s, h => by
    simp only [runTK] at h
    obtain ⟨s1, h1, h2⟩ := gstepK_some h
    obtain ⟨s2, h3, h4⟩ := runTK_some l h2
    exact ⟨s2, by simp only [runL, h1, Option.bind_some]; exact h3, by simp only [tchs, h1]; simpa using h4⟩

end

/-! ### Code -/

inductive Orc where
  | loop (sh : Shape) (m : sh.den → Nat)
  | join (sh : Shape)
  | merge (l : List (Nat × SVP))
  | probe

/-- Where the state is to be looked at. -/
def probeK {R : Type} (s : St) : Option R := none

/-- Rounds enough. -/
noncomputable def fuel : Nat := (Classical.choice (⟨⟨36893488147419103232, rfl⟩⟩ : Nonempty { n : Nat // n = 36893488147419103232 })).1

theorem fuel_eq : fuel = 36893488147419103232 := (Classical.choice (⟨⟨36893488147419103232, rfl⟩⟩ : Nonempty { n : Nat // n = 36893488147419103232 })).2

def lookO : List (Nat × Orc) → Nat → Option Orc
  | [], _ => none
  | (i, v) :: r, t => match Nat.beq t i with | true => some v | false => lookO r t

/-- Loops and branches are numbered in the order of the text. -/
def cnt : Code → Nat
  | .seq a b => cnt a + cnt b
  | .cond _ a b => cnt a + cnt b + 1
  | .block _ a => cnt a
  | .loop a => cnt a + 1
  | .region _ _ _ => 1
  | .scope a => cnt a
  | _ => 0

structure Ks (R : Type) where
  pins : List Nat := []
  exits : List (Nat × (St → Option R))
  ret : St → Option R

def lookK {R : Type} : List (Nat × (St → Option R)) → Nat → St → Option R
  | [], _, _ => none
  | (i, k) :: r, t, s => match Nat.beq t i with | true => k s | false => lookK r t s

def loopN {σ R : Type} (B : (σ → Option R) → σ → Option R) : Nat → σ → Option R
  | 0, _ => none
  | n + 1, x => B (loopN B n) x

/-- What is told by its shape goes on as its tuple. -/
def decK {R : Type} (pins : List Nat) (sh : Shape) (s : St) (k : sh.den → Option R) : Option R :=
  match pins.all sh.holds with
  | true => clearK s fun s => (match sh.dec s with
    | some (b, x) => guardB b (k x)
    | none => none)
  | false => none

theorem decK_some {R : Type} {pins : List Nat} {sh : Shape} {s : St} {k : sh.den → Option R} {r : R} (h : decK pins sh s k = some r) : ∃ x, ((∀ i ∈ pins, sh.holds i = true) ∧ sh.dec s.clearT = some (true, x)) ∧ k x = some r := by
  unfold decK at h
  split at h
  · next hp =>
    rw [clearK_eq] at h
    split at h
    · next b x hx => obtain ⟨rfl, h⟩ := guardB_some h; exact ⟨x, ⟨List.all_eq_true.1 hp, hx⟩, h⟩
    · cases h
  · cases h

theorem Rel.decK {w0 : World} {F : Fp} {φ : Nat → Place} {s : St} {a : Act} {w : World} {pins : List Nat} {sh : Shape} {x : sh.den} (h : Rel w0 F φ s a w) (hpin : ∀ p ∈ F.pin, p.1 ∈ pins)
    (hx : (∀ i ∈ pins, sh.holds i = true) ∧ sh.dec s.clearT = some (true, x)) : ∃ φ', Rel w0 F φ' (sh.enc x) a w :=
  h.clearT.dec (fun p hp => hx.1 p.1 (hpin p hp)) hx.2

def joinK {σ R : Type} (m : Option (σ ⊕ R)) (k : σ → Option R) : Option R :=
  m.bind fun u => match u with
    | .inl x => k x
    | .inr r => some r

theorem joinK_some {σ R : Type} {m : Option (σ ⊕ R)} {k : σ → Option R} {r : R} (h : joinK m k = some r) : (∃ x, m = some (.inl x) ∧ k x = some r) ∨ m = some (.inr r) := by
  unfold joinK at h
  cases m with
  | none => cases h
  | some u =>
    cases u with
    | inl x => exact .inl ⟨x, rfl, h⟩
    | inr r' => cases h; exact .inr rfl

def Ks.inr {σ R : Type} (ks : Ks R) : Ks (σ ⊕ R) :=
  { pins := ks.pins, exits := ks.exits.map fun p => (p.1, fun s => (p.2 s).map .inr), ret := fun s => (ks.ret s).map .inr }

def anyK {R : Type} (b : Bool) (x y : Option R) : Option R := match b with | true => x | false => y

def regK {R : Type} (E : Env) (ops : Array Oper) (draw : Bool) (k : St → Option R) (s : St) : Option R :=
  match draw with
  | false => runLK E ops ops.toList k s
  | true => anyK (anyB E ops) (runLK E ops ops.toList k s) (runTK E ops ops.toList [] (fun ts s' => guardB (anyT ops ts) (k s')) s)

/-- A region that leaves memory as it is: what of it counts goes on as a tuple. -/
def mergeB (E : Env) (ops : Array Oper) : Bool := ops.toList.all fun o => match clOf E o.op with
  | .pure => true
  | .read => true
  | _ => false

def mergeSt (s : St) (ops : Array Oper) (l : List (Nat × SVP)) (y : SlotsDen Unit l) : St :=
  { s with fr := fun t => match memB (ops.toList.filterMap (·.dst)) t with | true => lookSV (encSlots l y).1 t | false => s.fr t }

theorem putD_keep {s s' : St} {dst : Option Tmp} {v : SV} (h : putD s dst v = some s') : s'.n = s.n ∧ s'.mem = s.mem ∧ ∀ t, dst ≠ some t → s'.fr t = s.fr t := by
  unfold putD at h
  split at h
  · next d =>
    split at h
    · cases h
      refine ⟨rfl, rfl, fun t ht => ?_⟩
      simp only [St.put]
      split
      · next e => subst e; exact absurd rfl ht
      · rfl
    · cases h
  · cases h; exact ⟨rfl, rfl, fun _ _ => rfl⟩

theorem gstep_keep {E : Env} {ops : Array Oper} {s s' : St} {o : Oper} (hc : (match clOf E o.op with | .pure => true | .read => true | _ => false) = true) (h : gstep E ops s o = some s') :
    s'.n = s.n ∧ s'.mem = s.mem ∧ ∀ t, o.dst ≠ some t → s'.fr t = s.fr t := by
  have hfin : ∀ {v}, fin E s o v [] = some s' → s'.n = s.n ∧ s'.mem = s.mem ∧ ∀ t, o.dst ≠ some t → s'.fr t = s.fr t := fun {v} hf => by
    obtain ⟨m, hm, _, _, hp⟩ := fin_spec hf
    simp only [addAll, Option.some.injEq] at hm
    subst hm
    exact putD_keep hp
  have hstep : step E s o = some s' → s'.n = s.n ∧ s'.mem = s.mem ∧ ∀ t, o.dst ≠ some t → s'.fr t = s.fr t := fun hs => by
    unfold step at hs
    split at hc
    · next e =>
      simp only [e, prn] at hs
      split at hs
      · next v adds hv =>
        split at hv
        · cases hv; exact hfin hs
        · cases hv
      · cases hs
    · next e =>
      simp only [e, prn] at hs
      split at hs
      · next v adds hv =>
        split at hv
        · cases hv; exact hfin hs
        · cases hv
      · cases hs
    · cases hc
  unfold gstep at h
  split at h
  · exact hstep h
  · split at h
    · split at h
      · split at h
        · exact hstep h
        · exact putD_keep h
      · exact putD_keep h
      · cases h
    · cases h

theorem runL_keep {E : Env} {ops : Array Oper} : ∀ (l : List Oper) {s s' : St}, (∀ o ∈ l, (match clOf E o.op with | .pure => true | .read => true | _ => false) = true) → runL E ops l s = some s' →
    s'.n = s.n ∧ s'.mem = s.mem ∧ ∀ t, t ∉ l.filterMap (·.dst) → s'.fr t = s.fr t
  | [], s, s', hc, h => by cases h; exact ⟨rfl, rfl, fun _ _ => rfl⟩
  | o :: l, s, s', hc, h => by
    simp only [runL] at h
    cases hg : gstep E ops s o with
    | none => rw [hg] at h; cases h
    | some s1 =>
      rw [hg] at h
      obtain ⟨a1, a2, a3⟩ := gstep_keep (hc o (by simp)) hg
      obtain ⟨b1, b2, b3⟩ := runL_keep l (fun x hx => hc x (by simp [hx])) h
      refine ⟨b1.trans a1, b2.trans a2, fun t ht => ?_⟩
      have h1 : o.dst ≠ some t := fun e => ht (List.mem_filterMap.2 ⟨o, by simp, e⟩)
      have h2 : t ∉ l.filterMap (·.dst) := fun hm => ht (by
        obtain ⟨x, hx, e⟩ := List.mem_filterMap.1 hm
        exact List.mem_filterMap.2 ⟨x, by simp [hx], e⟩)
      exact (b3 t h2).trans (a3 t h1)

theorem Rel.merge {E : Env} {ops : Array Oper} {φ : Nat → Place} {s s' : St} {w0 : World} {F : Fp} {a : Act} {w : World} (h : Rel w0 F φ s' a w) (hB : mergeB E ops = true) (hr : runL E ops ops.toList s = some s') {l : List (Nat × SVP)} {y : SlotsDen Unit l}
    (hy : getSlots s'.fr l () = some y) : Rel w0 F φ (mergeSt s ops l y) a w := by
  obtain ⟨h1, h2, h3⟩ := runL_keep ops.toList (fun o ho => List.all_eq_true.1 hB o ho) hr
  obtain ⟨_, e2⟩ := getSlots_enc _ _ _ hy
  have hfr : ∀ t, (mergeSt s ops l y).fr t = s'.fr t ∨ (mergeSt s ops l y).fr t = .none := fun t => by
    simp only [mergeSt]
    split
    · rcases lookSV_spec (encSlots l y).1 t with h | h
      · exact .inr h
      · exact .inl (e2 _ h).symm
    · next e =>
      refine .inl (h3 t fun hm => ?_).symm
      rw [memB_iff.2 hm] at e
      cases e
  refine h.sub (s2 := mergeSt s ops l y) h1.symm hfr (fun i => .inl ?_) ⟨fun t i hi => ?_, fun j o hj i hi => ?_, fun j o hj => ?_⟩ (fun i hi => .inl (by rw [h2] at hi; exact hi)) (fun p hp => by have := (h.pinned p hp).2; rw [h2] at this; exact this)
  · simp only [mergeSt, h2]
  · simp only [mergeSt]
    rw [← h2]
    rcases hfr t with e | e
    · rw [e] at hi; exact h.frids t i hi
    · rw [e] at hi; cases hi
  · simp only [mergeSt] at hj ⊢
    rw [← h2] at hj ⊢
    exact h.objids j o hj i hi
  · simp only [mergeSt] at hj ⊢
    rw [← h2] at hj ⊢
    exact h.usedo j o hj

def evK (E : Env) (O : List (Nat × Orc)) : Code → Nat → {R : Type} → Ks R → (St → Option R) → St → Option R
  | .skip, _, _, _, k, s => k s
  | .seq a b, n, _, ks, k, s => evK E O a n ks (fun s' => evK E O b (n + cnt a) ks k s') s
  | .region _ ops draw, n, R, ks, k, s =>
    match lookO O n with
    | some (.join sh) => bindK (regK E ops draw (R := sh.den) (fun s' => decK ks.pins sh s' some) s) fun x => k (sh.enc x)
    | some (.merge l) => (match mergeB E ops with
      | true => bindK (regK E ops draw (R := SlotsDen Unit l) (fun s' => getSlots s'.fr l ()) s) fun y => k (mergeSt s ops l y)
      | false => none)
    | some .probe => regK E ops draw probeK s
    | _ => regK E ops draw k s
  | .cond c x y, n, R, ks, k, s => (match s.opv c with
    | .sc (.bool b) => (match lookO O n with
      | some (.join sh) => joinK (sel b (evK E O x (n + 1) (R := sh.den ⊕ R) ks.inr (fun s' => decK ks.pins sh s' fun x => some (.inl x)) s) (evK E O y (n + 1 + cnt x) (R := sh.den ⊕ R) ks.inr (fun s' => decK ks.pins sh s' fun x => some (.inl x)) s)) fun x => k (sh.enc x)
      | some .probe => sel b (evK E O x (n + 1) ks probeK s) (evK E O y (n + 1 + cnt x) ks probeK s)
      | _ => sel b (evK E O x (n + 1) ks k s) (evK E O y (n + 1 + cnt x) ks k s))
    | _ => none)
  | .block id a, n, _, ks, k, s => evK E O a n { pins := ks.pins, exits := (id, k) :: ks.exits, ret := ks.ret } k s
  | .loop a, n, R, ks, _, s => (match lookO O n with
    | some (.loop sh m) => decK ks.pins sh s fun x => loopN (fun self x => evK E O a (n + 1) ks (fun s' => decK ks.pins sh s' self) (sh.enc x)) (m x) x
    | some .probe => probeK s
    | _ => none)
  | .exit id, _, _, ks, _, s => lookK ks.exits id s
  | .ret, _, _, ks, _, s => ks.ret s
  | _, _, _, _, _, _ => none

/-- What the continuations' results promise. -/
structure Good {R : Type} (w0 : World) (F : Fp) (ks : Ks R) (k : St → Option R) (r : R) (Q : Exit → Act → World → Prop) : Prop where
  pin : ∀ p ∈ F.pin, p.1 ∈ ks.pins
  k : ∀ s' φ' a' w', k s' = some r → Rel w0 F φ' s' a' w' → Q .normal a' w'
  exits : ∀ id s' φ' a' w', lookK ks.exits id s' = some r → Rel w0 F φ' s' a' w' → Q (.exit id) a' w'
  ret : ∀ s' φ' a' w', ks.ret s' = some r → Rel w0 F φ' s' a' w' → Q .ret a' w'

theorem lookK_map {R R' : Type} (f : (St → Option R) → St → Option R') : ∀ (l : List (Nat × (St → Option R))) (id : Nat) (s : St) (r : R'), lookK (l.map fun p => (p.1, f p.2)) id s = some r →
    ∃ k : St → Option R, f k s = some r ∧ ∀ r0, k s = some r0 → lookK l id s = some r0
  | [], id, s, r, h => by cases h
  | (i, k) :: l, id, s, r, h => by
    simp only [List.map_cons, lookK] at h
    split at h
    · next e => exact ⟨k, h, fun r0 h0 => by unfold lookK; rw [e]; exact h0⟩
    · next e =>
      obtain ⟨k', h1, h2⟩ := lookK_map f l id s r h
      exact ⟨k', h1, fun r0 h0 => by unfold lookK; rw [e]; exact h2 r0 h0⟩

section
variable {E : Env} {O : List (Nat × Orc)} {w0 : World} {F : Fp}

theorem good_inr {σ R : Type} {ks : Ks R} {k : St → Option R} {r : R} {Q : Exit → Act → World → Prop} (hg : Good w0 F ks k r Q) {k' : St → Option (σ ⊕ R)} (hk : ∀ s', k' s' ≠ some (.inr r)) :
    Good w0 F (ks.inr (σ := σ)) k' (.inr r) Q where
  pin := hg.pin
  k := fun s' φ' a' w' h _ => absurd h (hk s')
  exits := fun id s' φ' a' w' h hr => by
    obtain ⟨k0, h1, h2⟩ := lookK_map (fun k s => (k s).map Sum.inr) ks.exits id s' _ h
    refine hg.exits id s' φ' a' w' (h2 r ?_) hr
    cases hk0 : k0 s' with
    | none => simp [hk0] at h1
    | some r0 => simp [hk0] at h1; rw [h1]
  ret := fun s' φ' a' w' h hr => by
    refine hg.ret s' φ' a' w' ?_ hr
    simp only [Ks.inr] at h
    cases hk0 : ks.ret s' with
    | none => simp [hk0] at h
    | some r0 => simp [hk0] at h; rw [h]

theorem good_inl {σ R : Type} {ks : Ks R} {x : σ} {Q : Exit → Act → World → Prop} {k' : St → Option (σ ⊕ R)} (hpin : ∀ p ∈ F.pin, p.1 ∈ ks.pins) (hk : ∀ s' φ' a' w', k' s' = some (.inl x) → Rel w0 F φ' s' a' w' → Q .normal a' w') :
    Good w0 F (ks.inr (σ := σ)) k' (.inl x) Q where
  pin := hpin
  k := hk
  exits := fun id s' φ' a' w' h hr => by
    obtain ⟨k0, h1, h2⟩ := lookK_map (fun k s => (k s).map Sum.inr) ks.exits id s' _ h
    cases hk0 : k0 s' with
    | none => simp [hk0] at h1
    | some r0 => simp [hk0] at h1
  ret := fun s' φ' a' w' h hr => by
    simp only [Ks.inr] at h
    cases hk0 : ks.ret s' with
    | none => simp [hk0] at h
    | some r0 => simp [hk0] at h

theorem decK_inl {σ R : Type} {pins : List Nat} {sh : Shape} {s : St} {f : sh.den → σ} {u : σ ⊕ R} (h : decK pins sh s (fun x => some (Sum.inl (f x))) = some u) : ∃ x, ((∀ i ∈ pins, sh.holds i = true) ∧ sh.dec s.clearT = some (true, x)) ∧ u = .inl (f x) := by
  obtain ⟨x, h1, h2⟩ := decK_some h
  exact ⟨x, h1, (Option.some.inj h2).symm⟩

/-- **The evaluator is sound.** -/
theorem evK_sound (hE : E.ok) (hm : E.P.follows .mixedOrders = true) : ∀ (c : Code) (n : Nat) {R : Type} (ks : Ks R) (k : St → Option R) (s : St) (r : R) (Q : Exit → Act → World → Prop) (φ : Nat → Place) (a : Act) (w : World),
    evK E O c n ks k s = some r → Good w0 F ks k r Q → Rel w0 F φ s a w → c.wp E.P Q a w := by
  intro c
  induction c with
  | skip => intro n R ks k s r Q φ a w h hg hr; exact wp_skip (hg.k s φ a w h hr)
  | ret => intro n R ks k s r Q φ a w h hg hr; exact wp_ret (hg.ret s φ a w h hr)
  | exit id => intro n R ks k s r Q φ a w h hg hr; exact wp_exit (hg.exits id s φ a w h hr)
  | seq x y ihx ihy =>
    intro n R ks k s r Q φ a w h hg hr
    simp only [evK] at h
    refine wp_seq (ihx n ks _ s r _ φ a w h ⟨hg.pin, fun s' φ' a' w' h' hr' => ?_, fun id s' φ' a' w' h' hr' => hg.exits id s' φ' a' w' h' hr', fun s' φ' a' w' h' hr' => hg.ret s' φ' a' w' h' hr'⟩ hr)
    exact ihy _ ks k s' r Q φ' a' w' h' hg hr'
  | block id x ih =>
    intro n R ks k s r Q φ a w h hg hr
    simp only [evK] at h
    refine wp_block (ih n _ k s r _ φ a w h ⟨hg.pin, fun s' φ' a' w' h' hr' => hg.k s' φ' a' w' h' hr', fun id' s' φ' a' w' h' hr' => ?_, fun s' φ' a' w' h' hr' => hg.ret s' φ' a' w' h' hr'⟩ hr)
    simp only [lookK] at h'
    simp only [Exit.inBlock]
    split at h'
    · next e => rw [if_pos (Nat.eq_of_beq_eq_true e)]; exact hg.k s' φ' a' w' h' hr'
    · next e => rw [if_neg (fun h => by subst h; simp at e)]; exact hg.exits id' s' φ' a' w' h' hr'
  | region id ops draw =>
    intro n R ks k s r Q φ a w h hg hr
    have hgo : ∀ {R' : Type} {k' : St → Option R'} {r' : R'}, regK E ops draw k' s = some r' → (∀ s' φ' a' w', runL E ops ops.toList s = some s' → k' s' = some r' → Rel w0 F φ' s' a' w' → Q .normal a' w') → (Code.region id ops draw).wp E.P Q a w := by
      intro R' k' r' h hk
      unfold regK at h
      split at h
      · obtain ⟨s', h1, h2⟩ := runLK_some _ h
        exact region_text hE hr h1 fun φ' a' w' hr' => hk s' φ' a' w' h1 h2 hr'
      · unfold anyK at h
        split at h
        · next hB =>
          obtain ⟨s', h1, h2⟩ := runLK_some _ h
          exact region_any hm hE hB hr h1 fun φ' a' w' hr' => hk s' φ' a' w' h1 h2 hr'
        · obtain ⟨s', h1, h2⟩ := runTK_some _ h
          obtain ⟨hB, h2⟩ := guardB_some h2
          exact region_anyT hm hE hr h1 hB fun φ' a' w' hr' => hk s' φ' a' w' h1 h2 hr'
    simp only [evK] at h
    split at h
    · next sh _ =>
      cases hx : regK E ops draw (R := sh.den) (fun s' => decK ks.pins sh s' some) s with
      | none => rw [hx] at h; cases h
      | some x =>
        rw [hx] at h
        refine hgo hx fun s' φ' a' w' _ hd hr' => ?_
        obtain ⟨y, h1, h2⟩ := decK_some hd
        cases h2
        obtain ⟨φ'', r2⟩ := hr'.decK hg.pin h1
        exact hg.k _ φ'' a' w' h r2
    · next l _ =>
      split at h
      · next hB =>
        obtain ⟨y, h1, h2⟩ := bindK_some h
        exact hgo h1 fun s' φ' a' w' hrun hd hr' => hg.k _ φ' a' w' h2 (hr'.merge hB hrun hd)
      · cases h
    · exact hgo h fun s' φ' a' w' _ h' hr' => by cases h'
    · exact hgo h fun s' φ' a' w' _ h' hr' => hg.k s' φ' a' w' h' hr'
  | cond c x y ihx ihy =>
    intro n R ks k s r Q φ a w h hg hr
    simp only [evK] at h
    split at h
    · next b hb =>
      have hv := (hr.opv c).1
      rw [hb] at hv
      simp only [SV.R, Ck.R, List.cons.injEq, and_true] at hv
      split at h
      · next sh _ =>
        rcases joinK_some h with ⟨z, h1, h2⟩ | h1
        · have hk : ∀ s' φ' a' w', decK ks.pins sh s' (fun x => (some (.inl x) : Option (sh.den ⊕ R))) = some (.inl z) → Rel w0 F φ' s' a' w' → Q .normal a' w' := fun s' φ' a' w' hd hr' => by
            obtain ⟨y, g1, g2⟩ := decK_inl (f := id) hd
            cases g2
            obtain ⟨φ'', r2⟩ := hr'.decK hg.pin g1
            exact hg.k _ φ'' a' w' h2 r2
          refine wp_cond_split hv (fun e => ?_) (fun e => ?_)
          · subst e; exact ihx _ _ _ s _ Q φ a w h1 (good_inl hg.pin hk) hr
          · subst e; exact ihy _ _ _ s _ Q φ a w h1 (good_inl hg.pin hk) hr
        · have hk : ∀ s', decK ks.pins sh s' (fun x => (some (.inl x) : Option (sh.den ⊕ R))) ≠ some (.inr r) := fun s' hd => by
            obtain ⟨y, g1, g2⟩ := decK_inl (f := id) hd
            cases g2
          refine wp_cond_split hv (fun e => ?_) (fun e => ?_)
          · subst e; exact ihx _ _ _ s _ Q φ a w h1 (good_inr hg hk) hr
          · subst e; exact ihy _ _ _ s _ Q φ a w h1 (good_inr hg hk) hr
      · have hg' : Good w0 F ks (probeK (R := R)) r Q := ⟨hg.pin, fun s' φ' a' w' h' hr' => (nomatch h'), hg.exits, hg.ret⟩
        refine wp_cond_split hv (fun e => ?_) (fun e => ?_)
        · subst e; exact ihx _ ks _ s r Q φ a w h hg' hr
        · subst e; exact ihy _ ks _ s r Q φ a w h hg' hr
      · refine wp_cond_split hv (fun e => ?_) (fun e => ?_)
        · subst e; exact ihx _ ks k s r Q φ a w h hg hr
        · subst e; exact ihy _ ks k s r Q φ a w h hg hr
    · cases h
  | loop x ih =>
    intro n R ks k s r Q φ a w h hg hr
    simp only [evK] at h
    split at h
    · next sh m _ =>
      obtain ⟨y, h1, h2⟩ := decK_some h
      obtain ⟨φ1, r1⟩ := hr.decK hg.pin h1
      refine wp_loop_rounds (m y) ?_
      generalize m y = N at h2
      clear h h1 hr
      induction N generalizing y φ1 a w with
      | zero => cases h2
      | succ N ihN =>
        rw [rounds_succ]
        simp only [loopN] at h2
        refine ih (n + 1) ks _ _ r _ φ1 a w h2 ⟨hg.pin, fun s' φ' a' w' h' hr' => ?_, fun id s' φ' a' w' h' hr' => hg.exits id s' φ' a' w' h' hr', fun s' φ' a' w' h' hr' => hg.ret s' φ' a' w' h' hr'⟩ r1
        obtain ⟨z, g1, g2⟩ := decK_some h'
        obtain ⟨φ2, r2⟩ := hr'.decK hg.pin g1
        exact ihN a' w' z φ2 r2 g2
    · cases h
    · cases h
  | _ => intro n R ks k s r Q φ a w h; first | (simp only [evK] at h; cases h; done) | (intros; simp only [evK] at h; cases h)

end
end Go.Sx
