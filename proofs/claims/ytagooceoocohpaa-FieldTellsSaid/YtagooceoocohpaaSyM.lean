/-
  Contracts of functions that leave old memory alone; one operation on abstract states.
-/
import Derived.Test.YtagooceoocohpaaSyL
import Derived.Orders
import Derived.Still
set_option linter.unusedVariables false
namespace Go.Sx

/-! ### Data by value, slices too -/

inductive DT where
  | ty (T : Ty)
  | list (T : Ty)

def DT.den : DT → Type
  | .ty T => T.den
  | .list T => List T.den

def Dens : List DT → Type
  | [] => Unit
  | [d] => d.den
  | d :: e :: r => d.den × Dens (e :: r)

structure PT where
  agg : Bool
  ts : List DT

def PDen : List PT → Type
  | [] => Unit
  | [p] => Dens p.ts
  | p :: q :: r => Dens p.ts × PDen (q :: r)

structure Ctr where
  K : FuncId
  ins : List PT
  outs : List PT
  f : PDen ins → Option (PDen outs)

/-! ### Reading arguments -/

def sliceOf (V : Nat → Option AObj) (T : Ty) : Ck → Option (Bool × List T.den)
  | .str _ => none
  | c => rowOf V T c

def decDT (V : Nat → Option AObj) : (d : DT) → List Ck → Option (Bool × d.den × List Ck)
  | .ty T, cs => (match T.dec cs with
    | some (x, r) => some (true, x, r)
    | none => none)
  | .list T, c :: r => (match sliceOf V T c with
    | some (b, xs) => some (b, xs, r)
    | none => none)
  | .list _, [] => none

def decDTs (V : Nat → Option AObj) : (ds : List DT) → List Ck → Option (Bool × Dens ds)
  | [], cs => (match cs with
    | [] => some (true, ())
    | _ => none)
  | [d], cs => (match decDT V d cs with
    | some (b, x, []) => some (b, x)
    | _ => none)
  | d :: e :: r, cs => (match decDT V d cs with
    | some (b, x, rest) => (match decDTs V (e :: r) rest with
      | some (c, y) => some (b && c, (x, y))
      | none => none)
    | none => none)

def SV.asPT (agg : Bool) : SV → Option (List Ck)
  | .agg cs => if agg = true then some cs else Option.none
  | .sc c => if agg = true then Option.none else some [c]
  | _ => Option.none

def decPT (V : Nat → Option AObj) (p : PT) (v : SV) : Option (Bool × Dens p.ts) :=
  match v.asPT p.agg with
  | some cs => decDTs V p.ts cs
  | none => none

def both {α β γ : Type} (f : α → β → γ) : Option (Bool × α) → Option (Bool × β) → Option (Bool × γ)
  | some (b, x), some (c, y) => some (b && c, f x y)
  | _, _ => none

theorem both_some {α β γ : Type} {f : α → β → γ} {u : Option (Bool × α)} {v : Option (Bool × β)} {t : Bool} {z : γ} (h : both f u v = some (t, z)) :
    ∃ b x c y, u = some (b, x) ∧ v = some (c, y) ∧ (b && c) = t ∧ f x y = z := by
  unfold both at h
  split at h
  · next b x c y => simp at h; exact ⟨b, x, c, y, rfl, rfl, h.1, h.2⟩
  · cases h

def PDen.mk2 {p q : PT} {r : List PT} (x : Dens p.ts) (y : PDen (q :: r)) : PDen (p :: q :: r) := (x, y)

def decPTs (V : Nat → Option AObj) : (ps : List PT) → List SV → Option (Bool × PDen ps)
  | [], vs => (match vs with
    | [] => some (true, ())
    | _ => none)
  | [p], vs => (match vs with
    | [v] => decPT V p v
    | _ => none)
  | p :: q :: r, vs => (match vs with
    | v :: vs => both PDen.mk2 (decPT V p v) (decPTs V (q :: r) vs)
    | [] => none)

/-! ### Making results: the lists get names from k on -/

def encDT (k : Nat) : (d : DT) → d.den → List Ck × List (Nat × AObj) × Nat
  | .ty T, x => (T.enc x, [], k)
  | .list T, xs => ([.sl k], [(k, .list T xs true)], k + 1)

def encDTs (k : Nat) : (ds : List DT) → Dens ds → List Ck × List (Nat × AObj) × Nat
  | [], _ => ([], [], k)
  | [d], x => encDT k d x
  | d :: e :: r, p =>
    let u := encDT k d p.1
    let v := encDTs u.2.2 (e :: r) p.2
    (u.1 ++ v.1, u.2.1 ++ v.2.1, v.2.2)

def encPTs (k : Nat) : (ps : List PT) → PDen ps → List (Bool × List Ck) × List (Nat × AObj) × Nat
  | [], _ => ([], [], k)
  | [p], x =>
    let u := encDTs k p.ts x
    ([(p.agg, u.1)], u.2.1, u.2.2)
  | p :: q :: r, x =>
    let u := encDTs k p.ts x.1
    let v := encPTs u.2.2 (q :: r) x.2
    ((p.agg, u.1) :: v.1, u.2.1 ++ v.2.1, v.2.2)

/-- One result stands by itself; more, or none, in a tuple. -/
def resSV : List (Bool × List Ck) → SV
  | [(true, cs)] => .agg cs
  | [(false, [c])] => .sc c
  | [(false, _)] => .none
  | l => .tup l

/-! ### What real values hold -/

/-- A slice that reads as a list. -/
def ListAt (w : World) (T : Ty) (xs : List T.den) (a : Option Addr) (c : Nat) : Prop :=
  xs.length ≤ c ∧ ((c = 0) ∨ ∃ b o arr E fr pre post, a = some ⟨b, o, none⟩ ∧ w.heap[b]? = some (.cells arr E fr) ∧ arr.toList = pre ++ xs.flatMap T.cells ++ post ∧ pre.length = o ∧ o + c * T.size ≤ arr.size)

def DeepD (w : World) : (d : DT) → d.den → List Value → Prop
  | .ty T, x, l => l = T.cells x
  | .list T, xs, l => ∃ a c, l = [.slice a xs.length c] ∧ ListAt w T xs a c

def DeepDs (w : World) : (ds : List DT) → Dens ds → List Value → Prop
  | [], _, l => l = []
  | [d], x, l => DeepD w d x l
  | d :: e :: r, p, l => ∃ l1 l2, l = l1 ++ l2 ∧ DeepD w d p.1 l1 ∧ DeepDs w (e :: r) p.2 l2

def DeepP (w : World) (p : PT) (x : Dens p.ts) (v : Value) : Prop :=
  if p.agg = true then ∃ l, v = .agg l.toArray ∧ DeepDs w p.ts x l else DeepDs w p.ts x [v]

def ArgsIn (w : World) : (ps : List PT) → PDen ps → List Value → Prop
  | [], _, vs => vs = []
  | [p], x, vs => ∃ v, vs = [v] ∧ DeepP w p x v
  | p :: q :: r, x, vs => ∃ v rest, vs = v :: rest ∧ DeepP w p x.1 v ∧ ArgsIn w (q :: r) x.2 rest

/-- A slice of the call's own: in a block from N on, which none of 'seen' is. -/
def ListNew (N : Nat) (w : World) (T : Ty) (xs : List T.den) (a : Option Addr) (c : Nat) (seen seen' : List Nat) : Prop :=
  (c = 0 ∧ xs = [] ∧ seen' = seen) ∨ ∃ b o arr E lo hi pre post, a = some ⟨b, o, none⟩ ∧ w.heap[b]? = some (.cells arr E (lo, hi)) ∧ arr.toList = pre ++ xs.flatMap T.cells ++ post ∧ pre.length = o ∧ xs.length ≤ c ∧ o + c * T.size ≤ arr.size ∧
    (hi ≤ lo ∨ arr.size ≤ lo) ∧ N ≤ b ∧ b ∉ seen ∧ seen' = b :: seen

def NewD (N : Nat) (w : World) : (d : DT) → d.den → List Value → List Nat → List Nat → Prop
  | .ty T, x, l, s, s' => l = T.cells x ∧ s' = s
  | .list T, xs, l, s, s' => ∃ a c, l = [.slice a xs.length c] ∧ ListNew N w T xs a c s s'

def NewDs (N : Nat) (w : World) : (ds : List DT) → Dens ds → List Value → List Nat → List Nat → Prop
  | [], _, l, s, s' => l = [] ∧ s' = s
  | [d], x, l, s, s' => NewD N w d x l s s'
  | d :: e :: r, p, l, s, s' => ∃ l1 l2 t, l = l1 ++ l2 ∧ NewD N w d p.1 l1 s t ∧ NewDs N w (e :: r) p.2 l2 t s'

def NewP (N : Nat) (w : World) (p : PT) (x : Dens p.ts) (v : Value) (s s' : List Nat) : Prop :=
  if p.agg = true then ∃ l, v = .agg l.toArray ∧ NewDs N w p.ts x l s s' else NewDs N w p.ts x [v] s s'

def NewPs (N : Nat) (w : World) : (ps : List PT) → PDen ps → List Value → List Nat → List Nat → Prop
  | [], _, vs, s, s' => vs = [] ∧ s' = s
  | [p], x, vs, s, s' => ∃ v, vs = [v] ∧ NewP N w p x v s s'
  | p :: q :: r, x, vs, s, s' => ∃ v rest t, vs = v :: rest ∧ NewP N w p x.1 v s t ∧ NewPs N w (q :: r) x.2 rest t s'

/-- The value that a call hands back for these results. -/
def resVal (vs : List Value) : Value := match vs with
  | [v] => v
  | vs => .tuple vs.toArray

/-- What a call hands back. -/
def Back (w : World) (ps : List PT) (y : PDen ps) (rs : List Value) (w' : World) : Prop := Old (fun _ => False) w w' ∧ ∃ seen, NewPs w.heap.size w' ps y rs [] seen

/-- **The contract**: called with what reads as x it hands back what f tells, and leaves all that was as it was. A function without a body answers at once. -/
def Ctr.ok (P : Program) (C : Ctr) : Prop :=
  ∀ x y, C.f x = some y → ∀ (w : World) (vs : List Value), ArgsIn w C.ins x vs →
    ((callFunc C.K vs.toArray).run P w = .ok (.enter C.K vs.toArray) w ∧ Calls P C.K vs.toArray w fun e w' => ∃ rs, e = .returned (resVal rs) ∧ Back w C.outs y rs w') ∨
    (∃ rs w', (callFunc C.K vs.toArray).run P w = .ok (.value (resVal rs)) w' ∧ Back w C.outs y rs w')

end Go.Sx
