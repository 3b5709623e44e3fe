/-
  The abstract values, objects and states of the framework Sx, and what they say of the model's values, memory and frames.
-/
import Derived.WalkKit
import Derived.KernelRfl
set_option linter.unusedVariables false
namespace Go.Sx

def All2 {α β : Type} (R : α → β → Prop) : List α → List β → Prop
  | [], [] => True
  | a :: as, b :: bs => R a b ∧ All2 R as bs
  | _, _ => False

theorem All2.imp {α β : Type} {R S : α → β → Prop} : ∀ {l : List α} {k : List β}, (∀ a ∈ l, ∀ b, R a b → S a b) → All2 R l k → All2 S l k
  | [], [], _, _ => trivial
  | a :: as, b :: bs, h, ⟨h1, h2⟩ => ⟨h a (by simp) b h1, All2.imp (fun x hx => h x (by simp [hx])) h2⟩
  | [], _ :: _, _, h => h.elim
  | _ :: _, [], _, h => h.elim

theorem All2.length {α β : Type} {R : α → β → Prop} : ∀ {l : List α} {k : List β}, All2 R l k → l.length = k.length
  | [], [], _ => rfl
  | _ :: _, _ :: _, ⟨_, h⟩ => by simp [All2.length h]
  | [], _ :: _, h => h.elim
  | _ :: _, [], h => h.elim

theorem All2.get {α β : Type} {R : α → β → Prop} : ∀ {l : List α} {k : List β}, All2 R l k → ∀ (i : Nat) (a : α), l[i]? = some a → ∃ b, k[i]? = some b ∧ R a b
  | [], [], _, _, _, h => by simp at h
  | x :: xs, y :: ys, ⟨h1, h2⟩, 0, a, h => by simp at h; subst h; exact ⟨y, rfl, h1⟩
  | x :: xs, y :: ys, ⟨h1, h2⟩, i + 1, a, h => by simpa using All2.get h2 i a (by simpa using h)
  | [], _ :: _, h, _, _, _ => h.elim
  | _ :: _, [], h, _, _, _ => h.elim

/-! ### Element types of lists (no addresses within) -/

inductive Ty where
  | int (k : IntKind)
  | bool
  | str
  | arr (k : IntKind) (n : Nat)
  | pair (a b : Ty)
  deriving DecidableEq

def Ty.den : Ty → Type
  | .int _ => Int
  | .bool => Bool
  | .str => ByteArray
  | .arr _ _ => Nat → Int
  | .pair a b => a.den × b.den

def Ty.dflt : (T : Ty) → T.den
  | .int _ => (0 : Int)
  | .bool => false
  | .str => (⟨#[]⟩ : ByteArray)
  | .arr _ _ => fun _ => (0 : Int)
  | .pair a b => (a.dflt, b.dflt)

/-! ### Chunks: what stands in one cell, or in the cells of an array of integers -/

inductive Ck where
  | int (k : IntKind) (x : Int)
  | bool (b : Bool)
  | str (s : ByteArray)
  | arr (k : IntKind) (n : Nat) (f : Nat → Int)
  | nilp
  | nils
  | nilm
  | nilf
  | fn (f : FuncId)
  | clo (f : FuncId) (caps : List Nat)
  | ptr (i off : Nat)
  | pel (i off n : Nat) (e : Int)
  | pls (i sz : Nat) (e : Int) (fo : Nat)
  | sl (i : Nat)
  | win (i sz : Nat) (lo n : Int)
  | awin (i off N : Nat) (lo n : Int)
  | mp (i : Nat)
  | unk (n : Nat)

def Ck.sz : Ck → Nat
  | .arr _ n _ => n
  | .unk n => n
  | _ => 1

def Ty.enc : (T : Ty) → T.den → List Ck
  | .int k, x => [.int k x]
  | .bool, b => [.bool b]
  | .str, s => [.str s]
  | .arr k n, f => [.arr k n f]
  | .pair a b, p => a.enc p.1 ++ b.enc p.2

def Ty.size : Ty → Nat
  | .arr _ n => n
  | .pair a b => a.size + b.size
  | _ => 1

/-- The cells of an element. -/
def Ty.cells : (T : Ty) → T.den → List Value
  | .int k, x => [.int k x]
  | .bool, b => [.bool b]
  | .str, s => [.string s]
  | .arr k n, f => (List.range n).map fun i => .int k (f i)
  | .pair a b, p => a.cells p.1 ++ b.cells p.2

theorem Ty.cells_length : ∀ (T : Ty) (x : T.den), (T.cells x).length = T.size
  | .int _, _ => rfl
  | .bool, _ => rfl
  | .str, _ => rfl
  | .arr _ _, _ => by simp [Ty.cells, Ty.size]
  | .pair a b, p => by simp [Ty.cells, Ty.size, Ty.cells_length a, Ty.cells_length b]

/-! ### Objects -/

inductive AObj where
  | var (cs : List Ck)
  | list (T : Ty) (xs : List T.den) (own : Bool)
  | map (K V : Ty) (es : List (K.den × V.den))

/-- An element as one value. -/
def Ty.value : (T : Ty) → T.den → Value
  | .int k, x => .int k x
  | .bool, b => .bool b
  | .str, s => .string s
  | .arr k n, f => .agg ((List.range n).map fun i => Value.int k (f i)).toArray
  | .pair a b, p => .agg (Ty.cells (.pair a b) p).toArray

structure Place where
  base : Option Addr
  cap : Nat

def scalar : Value → Prop
  | .agg _ => False
  | .tuple _ => False
  | _ => True

/-- What a chunk says of cells. 'm': the objects. -/
def Ck.R (φ : Nat → Place) (m : Nat → Option AObj) : Ck → List Value → Prop
  | .int k x, l => l = [.int k x]
  | .bool b, l => l = [.bool b]
  | .str s, l => l = [.string s]
  | .arr k n f, l => l = (List.range n).map fun i => .int k (f i)
  | .nilp, l => l = [.pointer none]
  | .nils, l => l = [.slice none 0 0]
  | .nilm, l => l = [.map none]
  | .nilf, l => l = [.nilFunc]
  | .fn f, l => l = [.func (.func f) #[] #[]]
  | .clo f caps, l => ∃ vs : List Value, l = [.func (.func f) #[] vs.toArray] ∧ All2 (fun i v => ∃ b, (φ i).base = some ⟨b, 0, none⟩ ∧ v = .pointer (some ⟨b, 0, none⟩)) caps vs
  | .ptr i off, l => ∃ b, (φ i).base = some ⟨b, 0, none⟩ ∧ l = [.pointer (some ⟨b, off, none⟩)]
  | .pel i off n e, l => ∃ b, (φ i).base = some ⟨b, 0, none⟩ ∧ l = [.pointer (some ⟨b, off + e.toNat, none⟩)] ∧ 0 ≤ e ∧ e < n
  | .pls i sz e fo, l => ∃ b o, (φ i).base = some ⟨b, o, none⟩ ∧ l = [.pointer (some ⟨b, o + e.toNat * sz + fo, none⟩)] ∧ 0 ≤ e
  | .sl i, l => match m i with
    | some (.list _ xs _) => l = [.slice (φ i).base xs.length (φ i).cap]
    | _ => ∃ v, l = [v] ∧ scalar v
  | .win i sz lo n, l => ∃ a c, l = [.slice a n.toNat c] ∧ n.toNat ≤ c ∧ 0 ≤ lo ∧ 0 ≤ n ∧ (c = 0 ∨ lo.toNat + c ≤ (φ i).cap) ∧
      (c = 0 ∨ ∃ b o, (φ i).base = some ⟨b, o, none⟩ ∧ a = some ⟨b, o + lo.toNat * sz, none⟩)
  | .awin i off N lo n, l => ∃ a c, l = [.slice a n.toNat c] ∧ n.toNat ≤ c ∧ 0 ≤ lo ∧ 0 ≤ n ∧ lo + n ≤ N ∧
      (c = 0 ∨ lo.toNat + c ≤ N ∧ ∃ b, (φ i).base = some ⟨b, 0, none⟩ ∧ a = some ⟨b, off + lo.toNat, none⟩)
  | .mp i, l => ∃ b, (φ i).base = some ⟨b, 0, none⟩ ∧ l = [.map (some b)]
  | .unk n, l => l.length = n ∧ ∀ v ∈ l, scalar v

def FlatR (φ : Nat → Place) (m : Nat → Option AObj) : List Ck → List Value → Prop
  | [], l => l = []
  | c :: cs, l => ∃ l1 l2, l = l1 ++ l2 ∧ c.R φ m l1 ∧ FlatR φ m cs l2

def Cks.size : List Ck → Nat
  | [] => 0
  | c :: cs => c.sz + Cks.size cs

theorem Ck.R_length {φ m} : ∀ {c : Ck} {l : List Value}, c.R φ m l → l.length = c.sz := by
  intro c l h
  cases c <;> simp only [Ck.R] at h <;> simp only [Ck.sz]
  case arr => subst h; simp
  case unk => exact h.1
  case sl i =>
    split at h
    · subst h; rfl
    · obtain ⟨v, rfl, _⟩ := h; rfl
  case clo => obtain ⟨vs, rfl, _⟩ := h; rfl
  case ptr => obtain ⟨b, _, rfl⟩ := h; rfl
  case pel => obtain ⟨b, _, rfl, _⟩ := h; rfl
  case pls => obtain ⟨b, o, _, rfl, _⟩ := h; rfl
  case win => obtain ⟨a, c, rfl, _⟩ := h; rfl
  case awin => obtain ⟨a, c, rfl, _⟩ := h; rfl
  case mp => obtain ⟨b, _, rfl⟩ := h; rfl
  all_goals (subst h; rfl)

theorem Ck.R_scalar {φ m} : ∀ {c : Ck} {l : List Value}, c.R φ m l → ∀ v ∈ l, scalar v := by
  intro c l h
  cases c <;> simp only [Ck.R] at h
  case arr => subst h; intro v hv; simp at hv; obtain ⟨i, _, rfl⟩ := hv; trivial
  case unk => exact h.2
  case sl i =>
    split at h
    · subst h; intro v hv; simp at hv; subst hv; trivial
    · obtain ⟨v, rfl, h⟩ := h; intro v hv; simp at hv; subst hv; exact h
  case clo => obtain ⟨vs, rfl, _⟩ := h; intro v hv; simp at hv; subst hv; trivial
  case ptr => obtain ⟨b, _, rfl⟩ := h; intro v hv; simp at hv; subst hv; trivial
  case pel => obtain ⟨b, _, rfl, _⟩ := h; intro v hv; simp at hv; subst hv; trivial
  case pls => obtain ⟨b, o, _, rfl, _⟩ := h; intro v hv; simp at hv; subst hv; trivial
  case win => obtain ⟨a, c, rfl, _⟩ := h; intro v hv; simp at hv; subst hv; trivial
  case awin => obtain ⟨a, c, rfl, _⟩ := h; intro v hv; simp at hv; subst hv; trivial
  case mp => obtain ⟨b, _, rfl⟩ := h; intro v hv; simp at hv; subst hv; trivial
  all_goals (subst h; intro v hv; simp at hv; subst hv; trivial)

theorem FlatR.length {φ m} : ∀ {cs : List Ck} {l : List Value}, FlatR φ m cs l → l.length = Cks.size cs
  | [], l, h => by simp only [FlatR] at h; subst h; rfl
  | c :: cs, l, h => by
    obtain ⟨l1, l2, rfl, h1, h2⟩ := h
    simp [Cks.size, Ck.R_length h1, FlatR.length h2]

theorem FlatR.scalar {φ m} : ∀ {cs : List Ck} {l : List Value}, FlatR φ m cs l → ∀ v ∈ l, scalar v
  | [], l, h => by simp only [FlatR] at h; subst h; simp
  | c :: cs, l, h => by
    obtain ⟨l1, l2, rfl, h1, h2⟩ := h
    intro v hv
    rcases List.mem_append.1 hv with h | h
    · exact Ck.R_scalar h1 v h
    · exact FlatR.scalar h2 v h

theorem FlatR.append {φ m} : ∀ {cs ds : List Ck} {l k : List Value}, FlatR φ m cs l → FlatR φ m ds k → FlatR φ m (cs ++ ds) (l ++ k)
  | [], ds, l, k, h, h' => by simp only [FlatR] at h; subst h; simpa using h'
  | c :: cs, ds, l, k, h, h' => by
    obtain ⟨l1, l2, rfl, h1, h2⟩ := h
    exact ⟨l1, l2 ++ k, by simp, h1, FlatR.append h2 h'⟩

theorem FlatR.of_append {φ m} : ∀ {cs ds : List Ck} {l : List Value}, FlatR φ m (cs ++ ds) l → ∃ a b, l = a ++ b ∧ FlatR φ m cs a ∧ FlatR φ m ds b
  | [], ds, l, h => ⟨[], l, rfl, rfl, h⟩
  | c :: cs, ds, l, h => by
    obtain ⟨l1, l2, rfl, h1, h2⟩ := h
    obtain ⟨a, b, rfl, ha, hb⟩ := FlatR.of_append h2
    exact ⟨l1 ++ a, b, by simp, ⟨l1, a, rfl, h1, ha⟩, hb⟩

theorem FlatR.enc {φ m} : ∀ (T : Ty) (x : T.den), FlatR φ m (T.enc x) (T.cells x)
  | .int _, x => ⟨_, _, (List.append_nil _).symm, rfl, rfl⟩
  | .bool, x => ⟨_, _, (List.append_nil _).symm, rfl, rfl⟩
  | .str, x => ⟨_, _, (List.append_nil _).symm, rfl, rfl⟩
  | .arr _ _, x => ⟨_, _, (List.append_nil _).symm, rfl, rfl⟩
  | .pair a b, p => FlatR.append (FlatR.enc a p.1) (FlatR.enc b p.2)

/-! ### Slots' values -/

inductive SV where
  | none
  | sc (c : Ck)
  | agg (cs : List Ck)
  | tup (vs : List (Bool × List Ck))

/-- A part of a tuple: an aggregate (true) or a scalar. -/
def BR (φ : Nat → Place) (m : Nat → Option AObj) : Bool × List Ck → Value → Prop
  | (true, cs), v => ∃ l, v = .agg l.toArray ∧ FlatR φ m cs l
  | (false, cs), v => FlatR φ m cs [v]

def SV.R (φ : Nat → Place) (m : Nat → Option AObj) : SV → Value → Prop
  | .none, _ => True
  | .sc c, v => c.R φ m [v]
  | .agg cs, v => ∃ l, v = .agg l.toArray ∧ FlatR φ m cs l
  | .tup vs, v => ∃ l : List Value, v = .tuple l.toArray ∧ All2 (BR φ m) vs l

/-! ### The identities that are named -/

def Ck.ids : Ck → List Nat
  | .clo _ caps => caps
  | .ptr i _ | .pel i _ _ _ | .pls i _ _ _ | .sl i | .win i _ _ _ | .awin i _ _ _ _ | .mp i => [i]
  | _ => []

def Cks.ids : List Ck → List Nat
  | [] => []
  | c :: cs => c.ids ++ Cks.ids cs

def SV.ids : SV → List Nat
  | .none => []
  | .sc c => c.ids
  | .agg cs => Cks.ids cs
  | .tup vs => vs.flatMap fun p => Cks.ids p.2

def AObj.ids : AObj → List Nat
  | .var cs => Cks.ids cs
  | .list _ _ _ => []
  | .map _ _ _ => []

/-! ### States -/

/-- 'tmps': lists that are read until the next write. -/
structure Mem where
  objs : Nat → Option AObj
  used : Nat → Bool
  tmps : List Nat := []

structure St where
  fr : Nat → SV
  n : Nat
  mem : Mem

/-- What an object says of memory. 'N': blocks from N on, and those of 'F', may be written. -/
def ObjOk (φ : Nat → Place) (m : Nat → Option AObj) (N : Nat) (F : Nat → Prop) (w : World) (i : Nat) : AObj → Prop
  | .var cs => ∃ b arr E lo hi, (φ i).base = some ⟨b, 0, none⟩ ∧ w.heap[b]? = some (.cells arr E (lo, hi)) ∧
      FlatR φ m cs arr.toList ∧ (hi ≤ lo ∨ arr.size ≤ lo) ∧ (N ≤ b ∨ F b)
  | .list T xs own => (xs = [] ∧ (φ i).cap = 0) ∨
      ∃ b o arr E lo hi pre post, (φ i).base = some ⟨b, o, none⟩ ∧ w.heap[b]? = some (.cells arr E (lo, hi)) ∧
        arr.toList = pre ++ xs.flatMap T.cells ++ post ∧ pre.length = o ∧ xs.length ≤ (φ i).cap ∧ o + (φ i).cap * T.size ≤ arr.size ∧
        (own = true → (hi ≤ lo ∨ arr.size ≤ lo) ∧ (N ≤ b ∨ F b))
  | .map K V es => ∃ b arr clk, (φ i).base = some ⟨b, 0, none⟩ ∧ w.heap[b]? = some (.map arr clk) ∧
      arr.toList.map (fun e => (e.key, e.val)) = es.map (fun p => (K.value p.1, V.value p.2)) ∧ (∀ e ∈ arr.toList, e.born < clk) ∧ (N ≤ b ∨ F b)

/-- The block of an object that may be written. -/
def ownBlock (φ : Nat → Place) (m : Nat → Option AObj) (i b : Nat) : Prop :=
  (∃ cs, m i = some (.var cs) ∧ (φ i).base = some ⟨b, 0, none⟩) ∨
  (∃ T xs o, m i = some (.list T xs true) ∧ (φ i).base = some ⟨b, o, none⟩ ∧ (φ i).cap ≠ 0) ∨
  (∃ K V es, m i = some (.map K V es) ∧ (φ i).base = some ⟨b, 0, none⟩)

/-- Old memory is as it was, but for the blocks of 'F'. -/
structure Old (F : Nat → Prop) (w w' : World) : Prop where
  os : w'.os = w.os
  tape : w'.tape = w.tape
  output : w'.output = w.output
  size : w.heap.size ≤ w'.heap.size
  block : ∀ k, k < w.heap.size → ¬ F k → w'.heap[k]? = w.heap[k]?

theorem Old.refl (F) (w : World) : Old F w w := ⟨rfl, rfl, rfl, Nat.le_refl _, fun _ _ _ => rfl⟩

theorem Old.trans {F} {a b c : World} (h : Old F a b) (k : Old F b c) : Old F a c :=
  ⟨k.os.trans h.os, k.tape.trans h.tape, k.output.trans h.output, Nat.le_trans h.size k.size,
    fun i hi hf => (k.block i (Nat.lt_of_lt_of_le hi h.size) hf).trans (h.block i hi hf)⟩

/-- What the call may write of the old blocks; which names stay where they are. -/
structure Fp where
  own : Nat → Prop
  pin : List (Nat × Place)

instance : Coe Fp (Nat → Prop) := ⟨Fp.own⟩
instance : CoeFun Fp (fun _ => Nat → Prop) := ⟨Fp.own⟩

def Fp.no : Fp := ⟨fun _ => False, []⟩

structure Rel (w0 : World) (F : Fp) (φ : Nat → Place) (s : St) (a : Act) (w : World) : Prop where
  defers : a.defers = []
  size : a.tmps.size = s.n
  fr : ∀ t, (s.fr t).R φ s.mem.objs (a.tmps.getD t undef)
  frids : ∀ t, ∀ i ∈ (s.fr t).ids, s.mem.used i = true
  objids : ∀ j o, s.mem.objs j = some o → ∀ i ∈ o.ids, s.mem.used i = true
  usedo : ∀ j o, s.mem.objs j = some o → s.mem.used j = true
  mem : ∀ i o, s.mem.objs i = some o → ObjOk φ s.mem.objs w0.heap.size F.own w i o
  inj : ∀ i j b, ownBlock φ s.mem.objs i b → ownBlock φ s.mem.objs j b → i = j
  ro : ∀ i T xs, s.mem.objs i = some (.list T xs false) → i ∈ s.mem.tmps ∨ (xs = [] ∧ (φ i).cap = 0) ∨ ∃ b o, (φ i).base = some ⟨b, o, none⟩ ∧ b < w0.heap.size ∧ ¬ F.own b
  fb : ∀ k, F.own k → k < w0.heap.size
  old : Old F.own w0 w
  pinned : ∀ p ∈ F.pin, φ p.1 = p.2 ∧ s.mem.used p.1 = true

end Go.Sx
