/-
  The operations that only compute: what they come to, and that the model comes to the same.
-/
import Derived.Test.YtagooceoocohpaaSyF
set_option linter.unusedVariables false
namespace Go.Sx

def parts2 (l : List (Nat × SV)) : Bool := l.all fun p => match p.2.cks with | some _ => true | none => false

def allPtr : List SV → Option (List Nat)
  | [] => some []
  | .sc (.ptr i 0) :: r => (match allPtr r with | some l => some (i :: l) | none => none)
  | _ => none

/-- The operations that neither read nor write memory. -/
def pureOp (P : Program) (ρ : Operand → SV) : Op → Option (Bool × SV)
  | .move x | .assign x => some (true, ρ x)
  | .pick c a b => (match ρ c, ρ a, ρ b with
    | .sc (.bool c), .sc (.bool x), .sc (.bool y) => some (true, .sc (.bool (bif c then x else y)))
    | .sc (.bool c), .sc (.int k x), .sc (.int k' y) => if k = k' then some (true, .sc (.int k (bif c then x else y))) else none
    | .sc (.bool true), x, _ => some (true, x)
    | .sc (.bool false), _, y => some (true, y)
    | _, _, _ => none)
  | .binOp op t x y _ => (match ρ x, ρ y with
    | .sc (.int k a), .sc (.int k' b) => (match op with
      | .shl | .shr => (match shiftInt op k a b with | some (c, r) => some (c, .sc r) | none => none)
      | _ => if k = k' then (match binInt op k a b with | some (c, r) => some (c, .sc r) | none => none) else none)
    | .sc (.str a), .sc (.str b) => (match binStr op a b with | some (c, r) => some (c, .sc r) | none => none)
    | .agg cs, .agg ds => if P.eqGuardType P.depth t = false ∧ isAggB P t = true then (match op, eqTyp P 12 t cs ds with
      | .eql, some b => some (true, .sc (.bool b))
      | .neq, some b => some (true, .sc (.bool (!b)))
      | _, _ => none) else none
    | .sc (.ptr _ _), .sc .nilp => (match op, P.underlying t with
      | .eql, some (.pointer _) => some (true, .sc (.bool false))
      | .neq, some (.pointer _) => some (true, .sc (.bool true))
      | _, _ => none)
    | .sc .nilp, .sc .nilp => (match op, P.underlying t with
      | .eql, some (.pointer _) => some (true, .sc (.bool true))
      | .neq, some (.pointer _) => some (true, .sc (.bool false))
      | _, _ => none)
    | .sc (.bool a), .sc (.bool b) => (match op, P.underlying t with
      | .eql, some .bool => some (true, .sc (.bool (a == b)))
      | .neq, some .bool => some (true, .sc (.bool (!(a == b))))
      | _, _ => none)
    | _, _ => none)
  | .unOp op _ x => (match op, ρ x with
    | .not, .sc (.bool b) => some (true, .sc (.bool (!b)))
    | .neg, .sc (.int k n) => some (true, .sc (.int k (k.wrap (0 - n))))
    | .xor, .sc (.int k n) => some (true, .sc (.int k (xorI k (if k.signed then -1 else k.max) n)))
    | _, _ => none)
  | .convert s d x => (match P.underlying s, P.underlying d, ρ x with
    | some _, some (.int k), .sc (.int _ n) => some (true, .sc (.int k (k.wrap n)))
    | some _, some .string, .sc (.str t) => some (true, .sc (.str t))
    | _, _, _ => none)
  | .extract x i => (match ρ x with
    | .tup vs => (match vs[i]? with
      | some (true, cs) => some (true, .agg cs)
      | some (false, [c]) => some (true, .sc c)
      | _ => none)
    | _ => none)
  | .field t x i => (match P.underlying t, ρ x with
    | some (.struct fs), .agg cs => (match fs[i]? with
      | some f => (match P.underlying f.type, partCk P f.type cs f.offset with
        | some _, some ms => (match svOf P f.type ms with | some v => some (true, v) | none => none)
        | _, _ => none)
      | none => none)
    | _, _ => none)
  | .index t x i => (match P.underlying t, ρ x, ρ i with
    | some (.array n e), .agg cs, .sc (.int _ j) => (match cs with
      | [.arr k n' f] => if n' = n ∧ P.cellsOf e = 1 ∧ isAggB P e = false ∧ (P.underlying e).isSome then some (decide (0 ≤ j) && decide (j < n), .sc (.int k (f j.toNat))) else none
      | _ => (match P.underlying e, partCk P e cs (j.toNat * P.cellsOf e) with
        | some _, some ms => (match svOf P e ms with | some v => some (decide (0 ≤ j) && decide (j < n), v) | none => none)
        | _, _ => none))
    | some .string, .sc (.str s), .sc (.int _ j) => some (decide (0 ≤ j) && decide (j < s.size), .sc (.int .u8 (bt s j)))
    | _, _, _ => none)
  | .fieldAddr t x i => (match P.underlying t, ρ x with
    | some (.struct fs), .sc (.ptr o off) => (match fs[i]? with
      | some f => if P.cellsOf f.type ≠ 0 ∧ (P.underlying f.type).isSome then some (true, .sc (.ptr o (off + f.offset))) else none
      | none => none)
    | some (.struct fs), .sc (.pls o sz e fo) => (match fs[i]? with
      | some f => if P.cellsOf f.type ≠ 0 ∧ (P.underlying f.type).isSome then some (true, .sc (.pls o sz e (fo + f.offset))) else none
      | none => none)
    | _, _ => none)
  | .indexAddr t x i => (match P.underlying t, ρ x, ρ i with
    | some (.array n e), .sc (.ptr o off), .sc (.int _ j) =>
      if n ≤ 1 then none else (match P.underlying e with
        | some (.int _) => if P.cellsOf e = 1 then some (decide (0 ≤ j) && decide (j < n), .sc (.pel o off n j)) else none
        | some _ => some (decide (0 ≤ j) && decide (j < n), .sc (.ptr o (off + j.toNat * P.cellsOf e)))
        | none => none)
    | _, _, _ => none)
  | .build t parts => (match P.underlying t, zeroOf P t with
    | some (.struct fs), some z => if fs.toList.all (fun f => (P.underlying f.type).isSome) then
        (match fillCks (fun i => (fs[i]?).map fun f => (f.offset, P.cellsOf f.type)) z (parts.toList.map fun p => (p.1, ρ p.2)) with
        | some cs => some (true, .agg cs)
        | none => none) else none
    | some (.array _ e), some z => if (P.underlying e).isSome then
        (match fillCks (fun i => some (i * P.cellsOf e, P.cellsOf e)) z (parts.toList.map fun p => (p.1, ρ p.2)) with
        | some cs => some (true, .agg cs)
        | none => none) else none
    | _, _ => none)
  | .makeFunc (.func f) first caps => if first.size = 0 then (match allPtr (caps.toList.map ρ) with
    | some l => some (true, .sc (.clo f l))
    | none => none) else none
  | .nilCheck x => (match ρ x with
    | .sc (.ptr i o) => some (true, .sc (.ptr i o))
    | .sc (.pel i o n e) => some (true, .sc (.pel i o n e))
    | .sc (.pls i s e f) => some (true, .sc (.pls i s e f))
    | _ => none)
  | .slice t x lo hi mx => (match P.underlying t, ρ x, lo.map ρ, hi.map ρ, mx with
    | some .string, .sc (.str s), none, none, none => some (true, .sc (.str (s.extract 0 s.size)))
    | some .string, .sc (.str s), some (.sc (.int _ l)), none, none => some (decide (0 ≤ l) && decide (l ≤ s.size), .sc (.str (s.extract l.toNat s.size)))
    | some .string, .sc (.str s), none, some (.sc (.int _ h)), none => some (decide (0 ≤ h) && decide (h ≤ s.size), .sc (.str (s.extract 0 h.toNat)))
    | some .string, .sc (.str s), some (.sc (.int _ l)), some (.sc (.int _ h)), none => some ((decide (0 ≤ h) && decide (h ≤ s.size)) && (decide (0 ≤ l) && decide (l ≤ h)), .sc (.str (s.extract l.toNat h.toNat)))
    | some (.array n e), .sc (.ptr i off), none, none, none => if P.cellsOf e = 1 ∧ (P.underlying e).isSome then some (true, .sc (.awin i off n 0 n)) else none
    | some (.array n e), .sc (.ptr i off), some (.sc (.int _ l)), none, none => if P.cellsOf e = 1 ∧ (P.underlying e).isSome then some (decide (0 ≤ l) && decide (l ≤ n), .sc (.awin i off n l (n - l))) else none
    | some (.array n e), .sc (.ptr i off), none, some (.sc (.int _ h)), none => if P.cellsOf e = 1 ∧ (P.underlying e).isSome then some (decide (0 ≤ h) && decide (h ≤ n), .sc (.awin i off n 0 h)) else none
    | some (.array n e), .sc (.ptr i off), some (.sc (.int _ l)), some (.sc (.int _ h)), none => if P.cellsOf e = 1 ∧ (P.underlying e).isSome then some ((decide (0 ≤ h) && decide (h ≤ n)) && (decide (0 ≤ l) && decide (l ≤ h)), .sc (.awin i off n l (h - l))) else none
    | _, _, _, _, _ => none)
  | .call { callee := .builtin .len, args, argTypes } => (match args[0]?, (argTypes[0]?).bind P.underlying with
    | some x, some .string => (match ρ x with | .sc (.str s) => some (true, .sc (.int .i64 s.size)) | _ => none)
    | some x, some (.array n _) => some (true, .sc (.int .i64 n))
    | _, _ => none)
  | .call { callee := .builtin .max, args, argTypes } => (match args.toList with
    | [x, y] => (match ρ x, ρ y with | .sc (.int k a), .sc (.int k' b) => if k = k' then some (true, .sc (.int k (if b > a then b else a))) else none | _, _ => none)
    | _ => none)
  | .call { callee := .builtin .min, args, argTypes } => (match args.toList with
    | [x, y] => (match ρ x, ρ y with | .sc (.int k a), .sc (.int k' b) => if k = k' then some (true, .sc (.int k (if b < a then b else a))) else none | _, _ => none)
    | _ => none)
  | _ => none

theorem bool_and_true {a b : Bool} (h : (a && b) = true) : a = true ∧ b = true := by simpa using h

theorem allPtr_R {φ m} : ∀ {l : List SV} {is : List Nat} {vs : List Value}, allPtr l = some is → All2 (fun s v => s.R φ m v) l vs →
    All2 (fun i v => ∃ b, (φ i).base = some ⟨b, 0, none⟩ ∧ v = .pointer (some ⟨b, 0, none⟩)) is vs
  | [], is, vs, h, hv => by
    simp [allPtr] at h; subst h
    cases vs with
    | nil => trivial
    | cons => exact hv.elim
  | s :: l, is, [], h, hv => hv.elim
  | s :: l, is, v :: vs, h, ⟨h1, h2⟩ => by
    unfold allPtr at h
    split at h
    · simp_all
    · next i r e =>
      simp at e; obtain ⟨rfl, rfl⟩ := e
      split at h
      · next l' hl =>
        simp at h; subst h
        obtain ⟨b, hb, e⟩ := h1
        simp at e; subst e
        exact ⟨⟨b, hb, rfl⟩, allPtr_R hl h2⟩
      · cases h
    · cases h


section
variable {P : Program} {φ : Nat → Place} {m : Nat → Option AObj} {ρ : Operand → SV} {ev : Operand → Value} {w : World} {v : SV}

theorem R_int {k x v} (h : (SV.sc (.int k x)).R φ m v) : v = .int k x := by simpa [SV.R, Ck.R] using h
theorem R_bool {x v} (h : (SV.sc (.bool x)).R φ m v) : v = .bool x := by simpa [SV.R, Ck.R] using h
theorem R_str {x v} (h : (SV.sc (.str x)).R φ m v) : v = .string x := by simpa [SV.R, Ck.R] using h
theorem R_nilp {v} (h : (SV.sc .nilp).R φ m v) : v = .pointer none := by simpa [SV.R, Ck.R] using h
theorem R_ptr {i off v} (h : (SV.sc (.ptr i off)).R φ m v) : ∃ b, (φ i).base = some ⟨b, 0, none⟩ ∧ v = .pointer (some ⟨b, off, none⟩) := by
  obtain ⟨b, hb, e⟩ := h; simp at e; exact ⟨b, hb, e⟩
theorem R_pls {i sz e fo v} (h : (SV.sc (.pls i sz e fo)).R φ m v) : ∃ b o, (φ i).base = some ⟨b, o, none⟩ ∧ v = .pointer (some ⟨b, o + e.toNat * sz + fo, none⟩) ∧ 0 ≤ e := by
  obtain ⟨b, o, hb, e, h⟩ := h; simp at e; exact ⟨b, o, hb, e, h⟩

theorem pick_sound {c a b : Operand} (hρ : ∀ x, (ρ x).R φ m (ev x)) (h : pureOp P ρ (.pick c a b) = some (true, v)) :
    ∃ val, (do if ← asBool (ev c) then pure (ev a) else pure (ev b) : Sem Value).run P w = .ok val w ∧ v.R φ m val := by
  have hc := hρ c; have ha := hρ a; have hb := hρ b
  simp only [pureOp] at h
  split at h
  · next cc x y e1 e2 e3 =>
    rw [e1] at hc; rw [e2] at ha; rw [e3] at hb
    simp at h; subst h
    rw [R_bool hc, R_bool ha, R_bool hb]
    cases cc <;> simp [asBool, SV.R, Ck.R]
  · next cc k x k' y e1 e2 e3 =>
    rw [e1] at hc; rw [e2] at ha; rw [e3] at hb
    split at h
    · next hk =>
      subst hk; simp at h; subst h
      rw [R_bool hc, R_int ha, R_int hb]
      cases cc <;> simp [asBool, SV.R, Ck.R]
    · cases h
  · next e1 _ _ =>
    rw [e1] at hc
    simp at h; subst h
    rw [R_bool hc]
    exact ⟨_, by simp [asBool], ha⟩
  · next e1 _ _ =>
    rw [e1] at hc
    simp at h; subst h
    rw [R_bool hc]
    exact ⟨_, by simp [asBool], hb⟩
  · cases h

theorem equal_ptr_nil {t e : TypeId} {a : Addr} (hu : P.underlying t = some (.pointer e)) : ∀ d, (Op.equalIn (d + 1) t (.pointer (some a)) (.pointer none)).run P w = .ok false w := fun d => by
  simp [Op.equalIn, run_underlying hu]
theorem equal_nil_nil {t e : TypeId} (hu : P.underlying t = some (.pointer e)) : ∀ d, (Op.equalIn (d + 1) t (.pointer none) (.pointer none)).run P w = .ok true w := fun d => by
  simp [Op.equalIn, run_underlying hu]
theorem equal_bool {t : TypeId} {a b : Bool} (hu : P.underlying t = some .bool) : ∀ d, (Op.equalIn (d + 1) t (.bool a) (.bool b)).run P w = .ok (a == b) w := fun d => by
  simp [Op.equalIn, run_underlying hu]
theorem eqlNeq {x y : Operand} {t : TypeId} {a b : Value} {r : Bool} (ha : (∃ p, a = .pointer p) ∨ ∃ p, a = .bool p) (hb : (∃ p, b = .pointer p) ∨ ∃ p, b = .bool p) (h : ∀ d, (Op.equalIn (d + 1) t a b).run P w = .ok r w) :
    ((do eqGuard .eql t x y a b; binOp .eql t a b : Sem Value)).run P w = .ok (.bool r) w ∧ ((do eqGuard .neq t x y a b; binOp .neq t a b : Sem Value)).run P w = .ok (.bool (!r)) w := by
  have h' : (Op.equal t a b).run P w = .ok r w := h 9999
  rcases ha with ⟨p, rfl⟩ | ⟨p, rfl⟩ <;> rcases hb with ⟨q, rfl⟩ | ⟨q, rfl⟩ <;> constructor <;> (simp only [eqGuard, binOp, Sem.run_bind]; simp [h'])

set_option maxHeartbeats 1000000 in
theorem binOp_sound {op : BinOp} {t yt : TypeId} {x y : Operand} (hρ : ∀ x, (ρ x).R φ m (ev x)) (h : pureOp P ρ (.binOp op t x y yt) = some (true, v)) :
    ∃ val, ((do eqGuard op t x y (ev x) (ev y); binOp op t (ev x) (ev y) : Sem Value)).run P w = .ok val w ∧ v.R φ m val := by
  have hx := hρ x; have hy := hρ y
  simp only [pureOp] at h
  split at h
  · next k a k' b e1 e2 =>
    rw [e1] at hx; rw [e2] at hy
    rw [R_int hx, R_int hy]
    split at h
    · split at h
      · next c r hs => simp at h; obtain ⟨rfl, rfl⟩ := h; obtain ⟨val, h1, h2⟩ := shiftInt_sound (P := P) (w := w) (t := t) (x := x) (y := y) (k' := k') hs; exact ⟨val, h1, h2 φ m⟩
      · cases h
    · split at h
      · next c r hs => simp at h; obtain ⟨rfl, rfl⟩ := h; obtain ⟨val, h1, h2⟩ := shiftInt_sound (P := P) (w := w) (t := t) (x := x) (y := y) (k' := k') hs; exact ⟨val, h1, h2 φ m⟩
      · cases h
    · split at h
      · next hk =>
        subst hk
        split at h
        · next c r hs => simp at h; obtain ⟨rfl, rfl⟩ := h; obtain ⟨val, h1, h2⟩ := binInt_sound (P := P) (w := w) (t := t) (x := x) (y := y) hs; exact ⟨val, h1, h2 φ m⟩
        · cases h
      · cases h
  · next a b e1 e2 =>
    rw [e1] at hx; rw [e2] at hy
    rw [R_str hx, R_str hy]
    split at h
    · next c r hs => simp at h; obtain ⟨rfl, rfl⟩ := h; obtain ⟨val, h1, h2⟩ := binStr_sound (P := P) (w := w) (t := t) (x := x) (y := y) hs; exact ⟨val, h1, h2 φ m⟩
    · cases h
  · next cs ds e1 e2 =>
    rw [e1] at hx; rw [e2] at hy
    split at h
    · next hg =>
      obtain ⟨hg, ha⟩ := hg
      obtain ⟨l, ex, hl⟩ := hx; obtain ⟨k, ey, hk⟩ := hy
      rw [ex, ey]
      have hvx : ValR P φ m t cs (.agg l.toArray) := by unfold ValR; rw [if_pos ha]; exact ⟨l, rfl, hl⟩
      have hvy : ValR P φ m t ds (.agg k.toArray) := by unfold ValR; rw [if_pos ha]; exact ⟨k, rfl, hk⟩
      split at h
      · next b hb =>
        simp at h; subst h
        have := eqTyp_sound (w := w) 12 t cs ds b _ _ hb hvx hvy 9988
        refine ⟨.bool b, ?_, rfl⟩
        simp only [Sem.run_bind, run_eqGuard_agg w _ t x y _ _ hg, Result.andThen_ok]
        simp only [binOp, Op.equal, Op.maxDepth, Sem.run_bind]
        rw [show (10000 : Nat) = 12 + 9988 from rfl, this]
        rfl
      · next b hb =>
        simp at h; subst h
        have := eqTyp_sound (w := w) 12 t cs ds b _ _ hb hvx hvy 9988
        refine ⟨.bool (!b), ?_, rfl⟩
        simp only [Sem.run_bind, run_eqGuard_agg w _ t x y _ _ hg, Result.andThen_ok]
        simp only [binOp, Op.equal, Op.maxDepth, Sem.run_bind]
        rw [show (10000 : Nat) = 12 + 9988 from rfl, this]
        rfl
      · cases h
    · cases h
  · next i o e1 e2 =>
    rw [e1] at hx; rw [e2] at hy
    obtain ⟨b, _, ex⟩ := R_ptr hx
    rw [ex, R_nilp hy]
    split at h
    · next e hu => simp at h; subst h; exact ⟨.bool false, (eqlNeq (.inl ⟨_, rfl⟩) (.inl ⟨_, rfl⟩) (equal_ptr_nil hu)).1, rfl⟩
    · next e hu => simp at h; subst h; exact ⟨.bool true, (eqlNeq (.inl ⟨_, rfl⟩) (.inl ⟨_, rfl⟩) (equal_ptr_nil hu)).2, rfl⟩
    · cases h
  · next e1 e2 =>
    rw [e1] at hx; rw [e2] at hy
    rw [R_nilp hx, R_nilp hy]
    split at h
    · next e hu => simp at h; subst h; exact ⟨.bool true, (eqlNeq (.inl ⟨_, rfl⟩) (.inl ⟨_, rfl⟩) (equal_nil_nil hu)).1, rfl⟩
    · next e hu => simp at h; subst h; exact ⟨.bool false, (eqlNeq (.inl ⟨_, rfl⟩) (.inl ⟨_, rfl⟩) (equal_nil_nil hu)).2, rfl⟩
    · cases h
  · next a b e1 e2 =>
    rw [e1] at hx; rw [e2] at hy
    rw [R_bool hx, R_bool hy]
    split at h
    · next hu => simp at h; subst h; exact ⟨.bool (a == b), (eqlNeq (.inr ⟨_, rfl⟩) (.inr ⟨_, rfl⟩) (equal_bool hu)).1, rfl⟩
    · next hu => simp at h; subst h; exact ⟨.bool (!(a == b)), (eqlNeq (.inr ⟨_, rfl⟩) (.inr ⟨_, rfl⟩) (equal_bool hu)).2, rfl⟩
    · cases h
  · cases h

theorem unOp_sound {op : UnOp} {t : TypeId} {x : Operand} (hρ : ∀ x, (ρ x).R φ m (ev x)) (h : pureOp P ρ (.unOp op t x) = some (true, v)) :
    ∃ val, (Op.unary op (ev x)).run P w = .ok val w ∧ v.R φ m val := by
  have hx := hρ x
  simp only [pureOp] at h
  split at h
  · next b e => rw [e] at hx; rw [R_bool hx]; simp at h; subst h; exact ⟨_, rfl, rfl⟩
  · next k n e => rw [e] at hx; rw [R_int hx]; simp only [Option.some.injEq, Prod.mk.injEq, true_and] at h; subst h; exact ⟨_, rfl, rfl⟩
  · next k n e => rw [e] at hx; rw [R_int hx]; simp only [Option.some.injEq, Prod.mk.injEq, true_and] at h; subst h; exact ⟨_, rfl, rfl⟩
  · cases h

theorem convert_sound {s d : TypeId} {x : Operand} (hρ : ∀ x, (ρ x).R φ m (ev x)) (h : pureOp P ρ (.convert s d x) = some (true, v)) :
    ∃ val, (convert s d (ev x)).run P w = .ok val w ∧ v.R φ m val := by
  have hx := hρ x
  simp only [pureOp] at h
  split at h
  · next u k k' n e1 e2 e3 =>
    rw [e3] at hx; rw [R_int hx]
    simp at h; subst h
    refine ⟨_, ?_, rfl⟩
    simp only [convert, Sem.run_bind, run_underlying e1, run_underlying e2, Result.andThen_ok]
    cases u <;> rfl
  · next u st e1 e2 e3 =>
    rw [e3] at hx; rw [R_str hx]
    simp at h; subst h
    refine ⟨_, ?_, rfl⟩
    simp only [convert, Sem.run_bind, run_underlying e1, run_underlying e2, Result.andThen_ok]
    cases u <;> rfl
  · cases h

theorem extract_sound {x : Operand} {i : Nat} (hρ : ∀ x, (ρ x).R φ m (ev x)) (h : pureOp P ρ (.extract x i) = some (true, v)) :
    ∃ val, (Instr.extract (ev x) i).run P w = .ok val w ∧ v.R φ m val := by
  have hx := hρ x
  simp only [pureOp] at h
  split at h
  · next vs e =>
    rw [e] at hx
    obtain ⟨l, el, hl⟩ := hx
    rw [el]
    split at h
    · next cs hi =>
      simp at h; subst h
      obtain ⟨b, hb, hr⟩ := hl.get _ _ hi
      refine ⟨b, by simp [Instr.extract, hb], ?_⟩
      obtain ⟨l', e', hf⟩ := hr
      exact ⟨l', e', hf⟩
    · next c hi =>
      simp at h; subst h
      obtain ⟨b, hb, hr⟩ := hl.get _ _ hi
      exact ⟨b, by simp [Instr.extract, hb], FlatR.single hr⟩
    · cases h
  · cases h

theorem field_sound {t : TypeId} {x : Operand} {i : Nat} (hρ : ∀ x, (ρ x).R φ m (ev x)) (h : pureOp P ρ (.field t x i) = some (true, v)) :
    ∃ val, (Instr.field t (ev x) i).run P w = .ok val w ∧ v.R φ m val := by
  have hx := hρ x
  simp only [pureOp] at h
  split at h
  · next fs cs e1 e2 =>
    rw [e2] at hx
    obtain ⟨l, el, hl⟩ := hx
    rw [el]
    split at h
    · next f hf =>
      split at h
      · next d ms hd hp =>
        split at h
        · next v' hv =>
          simp at h; subst h
          obtain ⟨val, h1, h2, _⟩ := run_part (w := w) hd hp hl
          refine ⟨val, ?_, svOf_R hv h2⟩
          simp only [Instr.field, Sem.run_bind, run_underlying e1, Result.andThen_ok, hf, asAgg, Sem.run_pure, h1]
        · cases h
      · cases h
    · cases h
  · cases h

theorem fieldAddr_sound {t : TypeId} {x : Operand} {i : Nat} (hρ : ∀ x, (ρ x).R φ m (ev x)) (h : pureOp P ρ (.fieldAddr t x i) = some (true, v)) :
    ∃ val, (Instr.fieldAt t (ev x) i).run P w = .ok val w ∧ v.R φ m val := by
  have hx := hρ x
  simp only [pureOp] at h
  split at h
  · next fs o off e1 e2 =>
    rw [e2] at hx
    obtain ⟨b, hb, el⟩ := R_ptr hx
    rw [el]
    split at h
    · next f hf =>
      split at h
      · next hc =>
        simp at h; subst h
        obtain ⟨d, hd⟩ := Option.isSome_iff_exists.1 hc.2
        refine ⟨.pointer (some ⟨b, off + f.offset, none⟩), ?_, ⟨b, hb, rfl⟩⟩
        simp [Instr.fieldAt, run_underlying e1, hf, Instr.sureAddr, fieldPlace, run_sizeOf (info_of_underlying hd), hc.1, addr_add]
      · cases h
    · cases h
  · next fs o sz e fo e1 e2 =>
    rw [e2] at hx
    obtain ⟨b, of, hb, el, h0⟩ := R_pls hx
    rw [el]
    split at h
    · next f hf =>
      split at h
      · next hc =>
        simp at h; subst h
        obtain ⟨d, hd⟩ := Option.isSome_iff_exists.1 hc.2
        refine ⟨.pointer (some ⟨b, of + e.toNat * sz + fo + f.offset, none⟩), ?_, ⟨b, of, hb, by simp [Nat.add_assoc], h0⟩⟩
        simp [Instr.fieldAt, run_underlying e1, hf, Instr.sureAddr, fieldPlace, run_sizeOf (info_of_underlying hd), hc.1, addr_add]
      · cases h
    · cases h
  · cases h

theorem andB {a b : Prop} [Decidable a] [Decidable b] (h : (decide a && decide b) = true) : a ∧ b := by simpa using h

theorem index_sound {t : TypeId} {x i : Operand} (hρ : ∀ x, (ρ x).R φ m (ev x)) (h : pureOp P ρ (.index t x i) = some (true, v)) :
    ∃ val, (Instr.index t (ev x) (ev i)).run P w = .ok val w ∧ v.R φ m val := by
  have hx := hρ x; have hi := hρ i
  simp only [pureOp] at h
  split at h
  · next n e cs k j e1 e2 e3 =>
    rw [e2] at hx; rw [e3] at hi
    rw [R_int hi]
    obtain ⟨l, el, hl⟩ := hx
    rw [el]
    split at h
    · next ki n' f =>
      split at h
      · next hh =>
        obtain ⟨rfl, hs, ha, hu⟩ := hh
        simp only [Option.some.injEq, Prod.mk.injEq] at h
        obtain ⟨hc, rfl⟩ := h
        obtain ⟨h0, h1⟩ := andB hc
        obtain ⟨d, hd⟩ := Option.isSome_iff_exists.1 hu
        have e1' := arr_single (v := .nilFunc) rfl hl
        subst e1'
        refine ⟨.int ki (f j.toNat), ?_, rfl⟩
        have hj : j.toNat < n' := by omega
        simp only [Instr.index, asIntOf, Sem.run_bind, Sem.run_pure, Result.andThen_ok, run_underlying e1]
        rw [if_pos ⟨h0, h1⟩]
        simp only [Sem.run_bind, run_sizeOf (info_of_underlying hd), hs, Result.andThen_ok, Nat.mul_one, part, run_isAgg hd, ha, Bool.false_eq_true, if_false]
        rw [show (((List.range n').map fun i => Value.int ki (f i)).toArray : Array Value)[j.toNat]? = some (.int ki (f j.toNat)) from by simp [hj]]
        rfl
      · cases h
    · split at h
      · next d ms hd hp =>
        split at h
        · next v' hv =>
          simp only [Option.some.injEq, Prod.mk.injEq] at h
          obtain ⟨hc, rfl⟩ := h
          obtain ⟨h0, h1⟩ := andB hc
          obtain ⟨val, g1, g2, _⟩ := run_part (w := w) hd hp hl
          refine ⟨val, ?_, svOf_R hv g2⟩
          simp only [Instr.index, asIntOf, Sem.run_bind, Sem.run_pure, Result.andThen_ok, run_underlying e1]
          rw [if_pos ⟨h0, h1⟩]
          simp only [Sem.run_bind, run_sizeOf (info_of_underlying hd), Result.andThen_ok, g1]
        · cases h
      · cases h
  · next s k j e1 e2 e3 =>
    rw [e2] at hx; rw [e3] at hi
    rw [R_int hi, R_str hx]
    simp only [Option.some.injEq, Prod.mk.injEq] at h
    obtain ⟨hc, rfl⟩ := h
    obtain ⟨h0, h1⟩ := andB hc
    refine ⟨.int .u8 (bt s j), ?_, rfl⟩
    have hj : j.toNat < s.size := by omega
    simp only [Instr.index, asIntOf, Sem.run_bind, Sem.run_pure, Result.andThen_ok, run_underlying e1]
    rw [if_pos h0]
    have hg : s[j.toNat]? = some (s[j.toNat]'hj) := getElem?_pos s j.toNat hj
    rw [hg]
    simp only [Sem.run_pure, bt]
    have : s.data.getD j.toNat 0 = s[j.toNat]'hj := by
      rw [Array.getD_eq_getD_getElem?, Array.getElem?_eq_getElem (show j.toNat < s.data.size from hj)]
      rfl
    rw [this]
  · cases h

theorem indexAddr_sound {t : TypeId} {x i : Operand} (hρ : ∀ x, (ρ x).R φ m (ev x)) (h : pureOp P ρ (.indexAddr t x i) = some (true, v)) :
    ∃ val, (Instr.indexAt t (ev x) (ev i)).run P w = .ok val w ∧ v.R φ m val := by
  have hx := hρ x; have hi := hρ i
  simp only [pureOp] at h
  split at h
  · next n e o off k j e1 e2 e3 =>
    rw [e2] at hx; rw [e3] at hi
    obtain ⟨b, hb, el⟩ := R_ptr hx
    rw [R_int hi, el]
    split at h
    · cases h
    · next hn1 =>
      have tiny : (decide (n ≤ 1)) = false := by simpa using hn1
      split at h
      · next ki hu =>
        split at h
        · next hs =>
          simp only [Option.some.injEq, Prod.mk.injEq] at h
          obtain ⟨hc, rfl⟩ := h
          obtain ⟨h0, h1⟩ := andB hc
          refine ⟨.pointer (some ⟨b, off + j.toNat, none⟩), ?_, ⟨b, hb, rfl, h0, h1⟩⟩
          simp only [Instr.indexAt, asIntOf, Sem.run_bind, Sem.run_pure, Result.andThen_ok, run_underlying e1, Instr.sureAddr]
          rw [if_pos ⟨h0, h1⟩]
          simp [run_sizeOf (info_of_underlying hu), hs, addr_add]
        · cases h
      · next d hni hd =>
        simp only [Option.some.injEq, Prod.mk.injEq] at h
        obtain ⟨hc, rfl⟩ := h
        obtain ⟨h0, h1⟩ := andB hc
        refine ⟨.pointer (some ⟨b, off + j.toNat * P.cellsOf e, none⟩), ?_, ⟨b, hb, rfl⟩⟩
        simp only [Instr.indexAt, asIntOf, Sem.run_bind, Sem.run_pure, Result.andThen_ok, run_underlying e1, Instr.sureAddr]
        rw [if_pos ⟨h0, h1⟩]
        simp [run_sizeOf (info_of_underlying hd), addr_add]
      · cases h
  · cases h

theorem all2_map {parts : List (Nat × Operand)} (hρ : ∀ x, (ρ x).R φ m (ev x)) :
    All2 (fun (p : Nat × SV) (q : Nat × Value) => p.1 = q.1 ∧ p.2.R φ m q.2) (parts.map fun p => (p.1, ρ p.2)) (parts.map fun p => (p.1, ev p.2)) := by
  induction parts with
  | nil => trivial
  | cons p ps ih => exact ⟨⟨rfl, hρ p.2⟩, ih⟩

theorem mapM_pair (P : Program) (w : World) (fs : List Field) (h : ∀ f ∈ fs, (P.underlying f.type).isSome) :
    ((fs.mapM fun f => do pure (f.offset, ← sizeOf f.type) : Sem (List (Nat × Nat)))).run P w = .ok (fs.map fun f => (f.offset, P.cellsOf f.type)) w := by
  induction fs with
  | nil => rfl
  | cons f fs ih =>
    obtain ⟨d, hd⟩ := Option.isSome_iff_exists.1 (h f (by simp))
    rw [List.mapM_cons]
    simp only [Sem.run_bind, run_sizeOf (info_of_underlying hd), Result.andThen_ok, Sem.run_pure]
    rw [ih (fun g hg => h g (by simp [hg]))]
    rfl

theorem build_sound {t : TypeId} {parts : Array (Nat × Operand)} (hρ : ∀ x, (ρ x).R φ m (ev x)) (h : pureOp P ρ (.build t parts) = some (true, v)) :
    ∃ val, (Instr.build t (parts.map fun (i, x) => (i, ev x))).run P w = .ok val w ∧ v.R φ m val := by
  have hparts : (parts.map fun (i, x) => (i, ev x)).toList = parts.toList.map fun p => (p.1, ev p.2) := by simp
  simp only [pureOp] at h
  split at h
  · next fs z e1 hz =>
    split at h
    · next hall =>
      split at h
      · next cs hf =>
        simp at h; subst h
        obtain ⟨zv, hzv, hzf⟩ := zeroOf_sound (φ := φ) (m := m) hz
        obtain ⟨cells', g1, g2, _⟩ := fillCks_spec _ _ _ _ _ hf hzf (all2_map hρ)
        refine ⟨.agg cells', ?_, ⟨cells'.toList, by simp, g2⟩⟩
        have hm : ((fs.mapM fun (f : Field) => do pure (f.offset, ← sizeOf f.type) : Sem (Array (Nat × Nat)))).run P w = .ok (fs.map fun f => (f.offset, P.cellsOf f.type)) w := by
          have := mapM_pair P w fs.toList (fun f hf => List.all_eq_true.1 hall f hf)
          rw [Array.mapM_eq_mapM_toList]
          simp only [Sem.run_map, this, Result.andThen_ok]
          congr 1
          apply Array.toList_inj.1
          simp
        simp only [Instr.build, Sem.run_bind, hzv, Result.andThen_ok, run_underlying e1, hm, hparts]
        have hpl : (fun i : Nat => (fs.map fun (f : Field) => (f.offset, P.cellsOf f.type))[i]?) = fun i : Nat => (fs[i]?).map fun (f : Field) => (f.offset, P.cellsOf f.type) := by
          funext i; simp
        rw [hpl, g1]
        rfl
      · cases h
    · cases h
  · next n e z e1 hz =>
    split at h
    · next hu =>
      split at h
      · next cs hf =>
        simp at h; subst h
        obtain ⟨d, hd⟩ := Option.isSome_iff_exists.1 hu
        obtain ⟨zv, hzv, hzf⟩ := zeroOf_sound (φ := φ) (m := m) hz
        obtain ⟨cells', g1, g2, _⟩ := fillCks_spec _ _ _ _ _ hf hzf (all2_map hρ)
        refine ⟨.agg cells', ?_, ⟨cells'.toList, by simp, g2⟩⟩
        simp only [Instr.build, Sem.run_bind, hzv, Result.andThen_ok, run_underlying e1, run_sizeOf (info_of_underlying hd), hparts]
        rw [g1]
        rfl
      · cases h
    · cases h
  · cases h

theorem all2_mapρ {l : List Operand} (hρ : ∀ x, (ρ x).R φ m (ev x)) : All2 (fun s v => SV.R φ m s v) (l.map ρ) (l.map ev) := by
  induction l with
  | nil => trivial
  | cons p ps ih => exact ⟨hρ p, ih⟩

theorem makeFunc_sound {f : Fn} {first caps : Array Operand} (hρ : ∀ x, (ρ x).R φ m (ev x)) (h : pureOp P ρ (.makeFunc f first caps) = some (true, v)) :
    ∃ val, (Instr.makeFunc f (first.map ev) (caps.map ev)).run P w = .ok val w ∧ v.R φ m val := by
  cases f with
  | func f =>
    simp only [pureOp] at h
    split at h
    · next h0 =>
      split at h
      · next l hl =>
        simp at h; subst h
        have hf : first = #[] := by simpa using h0
        subst hf
        refine ⟨.func (.func f) #[] (caps.map ev), by simp [Instr.makeFunc], ⟨caps.toList.map ev, ?_, allPtr_R hl (all2_mapρ hρ)⟩⟩
        congr 2
        apply Array.toList_inj.1
        simp
      · cases h
    · cases h
  | _ => simp [pureOp] at h

theorem sliceBounds_run {isS : Bool} {len cap : Nat} {lo hi : Option Int} (hh : ∀ x, hi = some x → 0 ≤ x ∧ x ≤ cap) (hl : ∀ x, lo = some x → 0 ≤ x ∧ x ≤ hi.getD (len : Int)) :
    ∀ k k', (Instr.sliceBounds isS len cap (lo.map (Value.int k)) (hi.map (Value.int k')) none).run P w = .ok ((lo.map Int.toNat).getD 0, (hi.map Int.toNat).getD len, cap) w := by
  intro k k'
  cases lo with
  | none =>
    cases hi with
    | none => rfl
    | some h =>
      obtain ⟨h1, h2⟩ := hh h rfl
      simp [Instr.sliceBounds, Instr.sliceBound, asIntOf, h1, h2]
  | some l =>
    cases hi with
    | none =>
      obtain ⟨h1, h2⟩ := hl l rfl
      simp at h2
      simp [Instr.sliceBounds, Instr.sliceBound, asIntOf, h1, h2]
    | some h =>
      obtain ⟨h1, h2⟩ := hh h rfl
      obtain ⟨h3, h4⟩ := hl l rfl
      simp at h4
      have h5 : l ≤ max h 0 := by omega
      simp [Instr.sliceBounds, Instr.sliceBound, asIntOf, h1, h2, h3]
      intro h6; omega


theorem slice_str {t : TypeId} {s : ByteArray} (hu : P.underlying t = some .string) {lo hi : Option Int} (hh : ∀ x, hi = some x → 0 ≤ x ∧ x ≤ s.size)
    (hl : ∀ x, lo = some x → 0 ≤ x ∧ x ≤ hi.getD (s.size : Int)) (k k' : IntKind) :
    (Instr.sliceAt t (.string s) (lo.map (Value.int k)) (hi.map (Value.int k')) none).run P w = .ok (.string (s.extract ((lo.map Int.toNat).getD 0) ((hi.map Int.toNat).getD s.size))) w := by
  simp only [Instr.sliceAt, Sem.run_bind, run_underlying hu, Result.andThen_ok, Instr.slice, Option.isSome_none, Bool.false_eq_true, if_false, Sem.run_pure, sliceBounds_run hh hl]

theorem slice_arr {t e : TypeId} {n b off : Nat} {d : TypeDesc} (hu : P.underlying t = some (.array n e)) (he : P.underlying e = some d) (hs : P.cellsOf e = 1) {lo hi : Option Int} (hh : ∀ x, hi = some x → 0 ≤ x ∧ x ≤ n)
    (hl : ∀ x, lo = some x → 0 ≤ x ∧ x ≤ hi.getD (n : Int)) (k k' : IntKind) {i : Nat} (hb : (φ i).base = some ⟨b, 0, none⟩) :
    ∃ val, (Instr.sliceAt t (.pointer (some ⟨b, off, none⟩)) (lo.map (Value.int k)) (hi.map (Value.int k')) none).run P w = .ok val w ∧
      (Ck.awin i off n (lo.getD 0) (hi.getD n - lo.getD 0)).R φ m [val] := by
  have hl0 : 0 ≤ lo.getD 0 ∧ lo.getD 0 ≤ hi.getD n := by
    cases lo with
    | none => cases hi with
      | none => simp
      | some h => have := hh h rfl; simp; omega
    | some l => cases hi with
      | none => have := hl l rfl; simpa using this
      | some h => have := hl l rfl; simpa using this
  have hh0 : 0 ≤ hi.getD n ∧ hi.getD n ≤ n := by
    cases hi with
    | none => simp
    | some h => have := hh h rfl; simpa using this
  have el : (lo.map Int.toNat).getD 0 = (lo.getD 0).toNat := by cases lo <;> rfl
  have eh : (hi.map Int.toNat).getD n = (hi.getD n).toNat := by cases hi <;> simp
  have hrun := sliceBounds_run (P := P) (w := w) (isS := false) (len := n) (cap := n) hh hl k k'
  rw [el, eh] at hrun
  clear hl hh el eh
  generalize lo.getD 0 = l at *
  generalize hi.getD n = h at *
  refine ⟨.slice (some (if n = l.toNat then ⟨b, off, none⟩ else ⟨b, off + l.toNat, none⟩)) (h.toNat - l.toNat) (n - l.toNat), ?_, ?_⟩
  · simp only [Instr.sliceAt, Sem.run_bind, run_underlying hu, Result.andThen_ok, Instr.sureAddr, Sem.run_pure, hrun, run_sizeOf (info_of_underlying he), hs, Nat.mul_one, addr_add]
  · refine ⟨_, _, by rw [show (h - l).toNat = h.toNat - l.toNat by omega], by omega, hl0.1, by omega, by omega, ?_⟩
    by_cases e : n - l.toNat = 0
    · exact .inl e
    · exact .inr ⟨by omega, b, hb, by rw [if_neg (by omega)]⟩

theorem slice_sound {t : TypeId} {x : Operand} {lo hi mx : Option Operand} (hρ : ∀ x, (ρ x).R φ m (ev x)) (h : pureOp P ρ (.slice t x lo hi mx) = some (true, v)) :
    ∃ val, (Instr.sliceAt t (ev x) (lo.map ev) (hi.map ev) (mx.map ev)).run P w = .ok val w ∧ v.R φ m val := by
  have hx := hρ x
  have hint : ∀ {y : Option Operand} {k : IntKind} {l : Int}, y.map ρ = some (.sc (.int k l)) → y.map ev = some (.int k l) := fun {y k l} e => by
    cases y with
    | none => cases e
    | some z => have := hρ z; simp at e; rw [e] at this; simp [R_int this]
  have hnone : ∀ {y : Option Operand}, y.map ρ = none → y.map ev = none := fun {y} e => by cases y <;> simp_all
  simp only [pureOp] at h
  split at h
  · next s e1 e2 e3 e4 =>
    rw [e2] at hx; rw [R_str hx, hnone e3, hnone e4]
    simp at h; subst h
    exact ⟨_, slice_str (lo := none) (hi := none) e1 (fun _ h => by cases h) (fun _ h => by cases h) .i64 .i64, by simp [SV.R, Ck.R]⟩
  · next s k l e1 e2 e3 e4 =>
    rw [e2] at hx; rw [R_str hx, hint e3, hnone e4]
    simp only [Option.some.injEq, Prod.mk.injEq] at h
    obtain ⟨hc, rfl⟩ := h
    obtain ⟨h0, h1⟩ := andB hc
    exact ⟨_, slice_str (lo := some l) (hi := none) e1 (fun _ h => by cases h) (fun _ h => by cases h; exact ⟨h0, h1⟩) k .i64, by simp [SV.R, Ck.R]⟩
  · next s k l e1 e2 e3 e4 =>
    rw [e2] at hx; rw [R_str hx, hnone e3, hint e4]
    simp only [Option.some.injEq, Prod.mk.injEq] at h
    obtain ⟨hc, rfl⟩ := h
    obtain ⟨h0, h1⟩ := andB hc
    exact ⟨_, slice_str (lo := none) (hi := some l) e1 (fun _ h => by cases h; exact ⟨h0, h1⟩) (fun _ h => by cases h) .i64 k, by simp [SV.R, Ck.R]⟩
  · next s k l k' hh e1 e2 e3 e4 =>
    rw [e2] at hx; rw [R_str hx, hint e3, hint e4]
    simp only [Option.some.injEq, Prod.mk.injEq] at h
    obtain ⟨hc, rfl⟩ := h
    obtain ⟨hc1, hc2⟩ := bool_and_true hc
    exact ⟨_, slice_str (lo := some l) (hi := some hh) e1 (fun _ h => by cases h; exact andB hc1) (fun _ h => by cases h; exact andB hc2) k k', by simp [SV.R, Ck.R]⟩
  · next n e i off e1 e2 e3 e4 =>
    rw [e2] at hx; obtain ⟨b, hb, el⟩ := R_ptr hx; rw [el, hnone e3, hnone e4]
    split at h
    · next hc =>
      obtain ⟨d, hd⟩ := Option.isSome_iff_exists.1 hc.2
      simp at h; subst h
      obtain ⟨val, h1, h2⟩ := slice_arr (m := m) (w := w) (off := off) (lo := none) (hi := none) e1 hd hc.1 (fun _ h => by cases h) (fun _ h => by cases h) .i64 .i64 hb
      exact ⟨val, h1, by simpa [SV.R] using h2⟩
    · cases h
  · next n e i off k l e1 e2 e3 e4 =>
    rw [e2] at hx; obtain ⟨b, hb, el⟩ := R_ptr hx; rw [el, hint e3, hnone e4]
    split at h
    · next hc =>
      obtain ⟨d, hd⟩ := Option.isSome_iff_exists.1 hc.2
      simp only [Option.some.injEq, Prod.mk.injEq] at h
      obtain ⟨hcc, rfl⟩ := h
      obtain ⟨val, h1, h2⟩ := slice_arr (m := m) (w := w) (off := off) (lo := some l) (hi := none) e1 hd hc.1 (fun _ h => by cases h) (fun _ h => by cases h; exact andB hcc) k .i64 hb
      exact ⟨val, h1, h2⟩
    · cases h
  · next n e i off k l e1 e2 e3 e4 =>
    rw [e2] at hx; obtain ⟨b, hb, el⟩ := R_ptr hx; rw [el, hnone e3, hint e4]
    split at h
    · next hc =>
      obtain ⟨d, hd⟩ := Option.isSome_iff_exists.1 hc.2
      simp only [Option.some.injEq, Prod.mk.injEq] at h
      obtain ⟨hcc, rfl⟩ := h
      obtain ⟨val, h1, h2⟩ := slice_arr (m := m) (w := w) (off := off) (lo := none) (hi := some l) e1 hd hc.1 (fun _ h => by cases h; exact andB hcc) (fun _ h => by cases h) .i64 k hb
      exact ⟨val, h1, by simpa [SV.R] using h2⟩
    · cases h
  · next n e i off k l k' hh e1 e2 e3 e4 =>
    rw [e2] at hx; obtain ⟨b, hb, el⟩ := R_ptr hx; rw [el, hint e3, hint e4]
    split at h
    · next hc =>
      obtain ⟨d, hd⟩ := Option.isSome_iff_exists.1 hc.2
      simp only [Option.some.injEq, Prod.mk.injEq] at h
      obtain ⟨hcc, rfl⟩ := h
      obtain ⟨hc1, hc2⟩ := bool_and_true hcc
      obtain ⟨val, h1, h2⟩ := slice_arr (m := m) (w := w) (off := off) (lo := some l) (hi := some hh) e1 hd hc.1 (fun _ h => by cases h; exact andB hc1) (fun _ h => by cases h; exact andB hc2) k k' hb
      exact ⟨val, h1, h2⟩
    · cases h
  · cases h

end

set_option maxHeartbeats 4000000 in
theorem pureOp_sound {P : Program} {φ m} {ρ : Operand → SV} {o : Oper} {ev : Operand → Value} {w : World} {v : SV}
    (hρ : ∀ x, (ρ x).R φ m (ev x)) (h : pureOp P ρ o.op = some (true, v)) : ∃ val, (execOp ev o).run P w = .ok (.value val) w ∧ v.R φ m val := by
  unfold execOp
  generalize o.op = op at h
  have lift : ∀ {s : Sem Value}, (∃ val, s.run P w = .ok val w ∧ v.R φ m val) → ∃ val, (do pure (.value (← s)) : Sem Next).run P w = .ok (.value val) w ∧ v.R φ m val :=
    fun ⟨val, h1, h2⟩ => ⟨val, by simp [h1], h2⟩
  cases op with
  | move x => simp [pureOp] at h; subst h; exact ⟨_, rfl, hρ x⟩
  | assign x => simp [pureOp] at h; subst h; exact ⟨_, rfl, hρ x⟩
  | pick c a b =>
    obtain ⟨val, h1, h2⟩ := pick_sound (w := w) hρ h
    refine ⟨val, ?_, h2⟩
    simp only [Sem.run_bind] at h1 ⊢
    generalize (asBool (ev c)).run P w = r at *
    cases r with
    | ok b w1 => cases b <;> simp_all
    | halt x w1 => simp at h1
  | binOp op t x y yt => exact lift (binOp_sound hρ h)
  | unOp op t x => exact lift (unOp_sound hρ h)
  | convert s d x => exact lift (convert_sound hρ h)
  | extract x i => exact lift (extract_sound hρ h)
  | field t x i => exact lift (field_sound hρ h)
  | index t x i => exact lift (index_sound hρ h)
  | fieldAddr t x i => exact lift (fieldAddr_sound hρ h)
  | indexAddr t x i => exact lift (indexAddr_sound hρ h)
  | build t parts => exact lift (build_sound hρ h)
  | makeFunc f first caps => exact lift (makeFunc_sound hρ h)
  | nilCheck x =>
    have hx := hρ x
    simp only [pureOp] at h
    split at h
    · next i o e =>
      rw [e] at hx; simp at h; subst h
      obtain ⟨b, hb, el⟩ := R_ptr hx
      exact ⟨ev x, by simp only [el]; rfl, hx⟩
    · next i o n j e =>
      rw [e] at hx; simp at h; subst h
      have hx' := hx
      obtain ⟨b, hb, el, _⟩ := hx
      simp at el
      exact ⟨ev x, by simp only [el]; rfl, hx'⟩
    · next i s j f e =>
      rw [e] at hx; simp at h; subst h
      obtain ⟨b, o, hb, el, _⟩ := R_pls hx
      exact ⟨ev x, by simp only [el]; rfl, hx⟩
    · cases h
  | slice t x lo hi mx => exact lift (slice_sound hρ h)
  | call c =>
    obtain ⟨callee, args, argTypes⟩ := c
    cases callee with
    | value _ => simp [pureOp] at h
    | invoke _ _ => simp [pureOp] at h
    | builtin bi =>
      cases bi with
      | len =>
        simp only [pureOp] at h
        simp only [resolve, Sem.run_bind, Sem.run_pure, Result.andThen_ok, invoke, builtin]
        split at h
        · next x e1 e2 =>
          obtain ⟨tt, et, eu⟩ := Option.bind_eq_some_iff.1 e2
          have hx := hρ x
          split at h
          · next s e =>
            rw [e] at hx
            simp at h; subst h
            exact ⟨_, by simp [Builtin.len_, et, e1, run_underlying eu, R_str hx, goInt], rfl⟩
          · cases h
        · next x n e e1 e2 =>
          obtain ⟨tt, et, eu⟩ := Option.bind_eq_some_iff.1 e2
          simp at h; subst h
          exact ⟨_, by simp [Builtin.len_, et, e1, run_underlying eu, goInt], rfl⟩
        · cases h
      | max =>
        simp only [pureOp] at h
        simp only [resolve, Sem.run_bind, Sem.run_pure, Result.andThen_ok, invoke, builtin]
        split at h
        · next x y e1 =>
          have hx := hρ x; have hy := hρ y
          split at h
          · next k a k' b e2 e3 =>
            rw [e2] at hx; rw [e3] at hy
            split at h
            · next hk =>
              simp at h; subst h
              exact ⟨.int k (if b > a then b else a), by simp [Builtin.max_, e1, R_int hx, R_int hy, Builtin.max2], rfl⟩
            · cases h
          · cases h
        · cases h
      | min =>
        simp only [pureOp] at h
        simp only [resolve, Sem.run_bind, Sem.run_pure, Result.andThen_ok, invoke, builtin]
        split at h
        · next x y e1 =>
          have hx := hρ x; have hy := hρ y
          split at h
          · next k a k' b e2 e3 =>
            rw [e2] at hx; rw [e3] at hy
            split at h
            · next hk =>
              simp at h; subst h
              exact ⟨.int k (if b < a then b else a), by simp [Builtin.min_, e1, R_int hx, R_int hy, Builtin.min2], rfl⟩
            · cases h
          · cases h
        · cases h
      | _ => simp [pureOp] at h
  | _ => simp [pureOp] at h

end Go.Sx
