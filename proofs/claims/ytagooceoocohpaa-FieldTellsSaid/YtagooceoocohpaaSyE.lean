/-
  Parts of aggregates, equality of aggregates, on chunks.
-/
import Derived.Test.YtagooceoocohpaaSyD
set_option linter.unusedVariables false
namespace Go.Sx

def eqA (n : Nat) (f g : Nat → Int) : Bool := (List.range n).all fun i => f i == g i

theorem run_typeInfo {P : Program} {t : TypeId} {i : TypeInfo} {w : World} (h : P.info? t = some i) : (typeInfo t).run P w = .ok i w := by
  simp [typeInfo, program, Sem.run, h]

theorem run_underlying {P : Program} {t : TypeId} {d : TypeDesc} {w : World} (h : P.underlying t = some d) : (underlying t).run P w = .ok d w := by
  simp [underlying, program, Sem.run, h]

theorem run_sizeOf {P : Program} {t : TypeId} {n : Nat} {w : World} (h : (P.info? t).map (·.size) = some n) : (sizeOf t).run P w = .ok n w := by
  simp only [Option.map_eq_some_iff] at h
  obtain ⟨i, hi, rfl⟩ := h
  simp [sizeOf, run_typeInfo hi]

def isAggB (P : Program) (t : TypeId) : Bool :=
  match P.underlying t with
  | some (.struct _) | some (.array _ _) => true
  | _ => false

theorem run_isAgg {P : Program} {t : TypeId} {d : TypeDesc} {w : World} (h : P.underlying t = some d) : (isAgg t).run P w = .ok (isAggB P t) w := by
  simp only [isAgg, Sem.run_bind, run_underlying h, Result.andThen_ok, isAggB, h]
  cases d <;> rfl

theorem info_of_underlying {P : Program} {t : TypeId} {d : TypeDesc} (h : P.underlying t = some d) : (P.info? t).map (·.size) = some (P.cellsOf t) := by
  unfold Program.underlying at h
  unfold Program.cellsOf
  cases hi : P.info? t with
  | none => simp [hi] at h
  | some i => simp

/-- The value of a type of which chunks tell. -/
def ValR (P : Program) (φ : Nat → Place) (m : Nat → Option AObj) (t : TypeId) (cs : List Ck) (v : Value) : Prop :=
  if isAggB P t = true then ∃ l, v = .agg l.toArray ∧ FlatR φ m cs l else ∃ c, cs = [c] ∧ c.R φ m [v]

def svOf (P : Program) (t : TypeId) (cs : List Ck) : Option SV :=
  if isAggB P t = true then some (.agg cs) else match cs with
    | [c] => some (.sc c)
    | _ => none

theorem svOf_R {P φ m t cs v sv} (h : svOf P t cs = some sv) (hv : ValR P φ m t cs v) : sv.R φ m v := by
  unfold svOf at h
  unfold ValR at hv
  split at h
  · next ha => rw [if_pos ha] at hv; simp at h; subst h; exact hv
  · next ha =>
    rw [if_neg ha] at hv
    obtain ⟨c, rfl, hc⟩ := hv
    simp at h; subst h; exact hc

def partCk (P : Program) (t : TypeId) (cs : List Ck) (off : Nat) : Option (List Ck) :=
  if isAggB P t = true then midCks cs off (P.cellsOf t) else
    match midCks cs off 1 with
    | some [c] => some [c]
    | _ => none

theorem FlatR.single {φ m c v} (h : FlatR φ m [c] [v]) : c.R φ m [v] := by
  obtain ⟨l1, l2, e, h1, h2⟩ := h
  simp only [FlatR] at h2
  subst h2
  simp at e; subst e; exact h1

theorem FlatR.of_single {φ m c} {l : List Value} (h : c.R φ m l) : FlatR φ m [c] l := ⟨l, [], by simp, h, rfl⟩

theorem run_part {P : Program} {φ m} {t : TypeId} {d : TypeDesc} {cs ms : List Ck} {l : List Value} {off : Nat} {w : World} (ht : P.underlying t = some d)
    (h : partCk P t cs off = some ms) (hl : FlatR φ m cs l) : ∃ v, (part t l.toArray off).run P w = .ok v w ∧ ValR P φ m t ms v ∧ ∀ i ∈ Cks.ids ms, i ∈ Cks.ids cs := by
  unfold partCk at h
  unfold part ValR
  simp only [Sem.run_bind, run_isAgg ht, Result.andThen_ok]
  split at h
  · next ha =>
    obtain ⟨h1, h2, h3⟩ := midCks_spec h hl
    simp only [ha, if_true]
    exact ⟨.agg ((l.drop off).take (P.cellsOf t)).toArray, by simp [run_sizeOf (info_of_underlying ht), List.extract_eq_take_drop], ⟨(l.drop off).take (P.cellsOf t), rfl, h1⟩, h3⟩
  · next ha =>
    split at h
    · next c hc =>
      simp at h; subst h
      obtain ⟨h1, h2, h3⟩ := midCks_spec hc hl
      have ha' : isAggB P t = false := by simpa using ha
      simp only [ha', Bool.false_eq_true, if_false]
      simp only [List.drop_eq_getElem_cons (show off < l.length by omega), List.take_succ_cons, List.take_zero] at h1
      exact ⟨l[off]'(by omega), by simp [show off < l.length by omega], ⟨c, rfl, h1.single⟩, h3⟩
    · cases h

/-! ### Equality -/

def eqFields (P : Program) (eq : TypeId → List Ck → List Ck → Option Bool) (cs ds : List Ck) : List Field → Option Bool
  | [] => some true
  | f :: fs =>
    if f.name ≠ "_" then
      match partCk P f.type cs f.offset, partCk P f.type ds f.offset with
      | some a, some b => (match eq f.type a b, eqFields P eq cs ds fs with
        | some r, some q => some (r && q)
        | _, _ => none)
      | _, _ => none
    else eqFields P eq cs ds fs

/-- Whether two values of a type are the same, by their chunks. -/
def eqTyp (P : Program) : Nat → TypeId → List Ck → List Ck → Option Bool
  | 0, _, _, _ => none
  | d + 1, t, cs, ds =>
    match P.underlying t, cs, ds with
    | some (.int _), [.int k a], [.int k' b] => if k = k' then some (a == b) else none
    | some .bool, [.bool a], [.bool b] => some (a == b)
    | some .string, [.str a], [.str b] => some (strEq a b)
    | some (.array l e), [.arr k n f], [.arr k' n' g] => (match P.underlying e with
      | some (.int _) => if k = k' ∧ n = l ∧ n' = l ∧ P.cellsOf e = 1 ∧ d ≠ 0 then some (eqA l f g) else none
      | _ => none)
    | some (.struct fs), cs, ds => if P.stoodInHeld t = false then eqFields P (eqTyp P d) cs ds fs.toList else none
    | _, _, _ => none

theorem run_eqFields {P : Program} {φ m} {d : Nat} {w : World} (eq : TypeId → List Ck → List Ck → Option Bool)
    (heq : ∀ t cs ds b v v', eq t cs ds = some b → ValR P φ m t cs v → ValR P φ m t ds v' → (Op.equalIn d t v v').run P w = .ok b w)
    (hund : ∀ t cs ds b, eq t cs ds = some b → ∃ d, P.underlying t = some d)
    {cs ds : List Ck} {l k : List Value} (hl : FlatR φ m cs l) (hk : FlatR φ m ds k) : ∀ (fs : List Field) (b : Bool), eqFields P eq cs ds fs = some b →
    (Op.eqFields d l.toArray k.toArray fs).run P w = .ok b w
  | [], b, h => by simp [eqFields] at h; subst h; simp [Op.eqFields]
  | f :: fs, b, h => by
    simp only [eqFields] at h
    simp only [Op.eqFields]
    split at h
    · next hn =>
      rw [if_pos hn]
      split at h
      · next a b' ha hb =>
        split at h
        · next r q hr hq =>
          simp at h; subst h
          obtain ⟨dd, hd⟩ := hund _ _ _ _ hr
          obtain ⟨v, hv, hvr, _⟩ := run_part (w := w) hd ha hl
          obtain ⟨v', hv', hvr', _⟩ := run_part (w := w) hd hb hk
          have h3 := heq _ _ _ _ _ _ hr hvr hvr'
          simp only [Sem.run_bind, hv, Result.andThen_ok, hv', h3]
          have ih := run_eqFields eq heq hund hl hk fs q hq
          cases r <;> simp [ih]
        · cases h
      · cases h
    · next hn =>
      rw [if_neg hn]
      exact run_eqFields eq heq hund hl hk fs b h

theorem run_equalArr {P : Program} {w : World} {d l : Nat} {t e : TypeId} {k ki : IntKind} {f g : Nat → Int} (ht : P.underlying t = some (.array l e)) (he : P.underlying e = some (.int ki)) (hs : P.cellsOf e = 1) :
    (Op.equalIn (d + 2) t (.agg ((List.range l).map fun i => Value.int k (f i)).toArray) (.agg ((List.range l).map fun i => Value.int k (g i)).toArray)).run P w = .ok (eqA l f g) w := by
  have hp : ∀ (h : Nat → Int) (i : Nat), i < l → (part e ((List.range l).map fun i => Value.int k (h i)).toArray i).run P w = .ok (.int k (h i)) w := fun h i hi => by
    unfold part
    simp [run_isAgg he, isAggB, he, hi]
  have key : ∀ (n s : Nat), s + n = l → ∀ (F : Nat → Sem (ForInStep (Option Bool × Unit))),
      (∀ i, i < l → (F i).run P w = .ok (if f i == g i then .yield (none, ()) else .done (some false, ())) w) →
      (forIn (List.range' s n) ((none, ()) : Option Bool × Unit) (fun i _ => F i) : Sem (Option Bool × Unit)).run P w = .ok (if (List.range' s n).all (fun i => f i == g i) then (none, ()) else (some false, ())) w := by
    intro n
    induction n with
    | zero => intro s _ F _; simp
    | succ n ih =>
      intro s hsn F hF
      simp only [List.range'_succ, List.forIn_cons, Sem.run_bind, hF s (by omega), Result.andThen_ok, List.all_cons]
      cases hv : (f s == g s) with
      | false => simp
      | true => simp only [Bool.true_and]; exact ih (s + 1) (by omega) F hF
  unfold Op.equalIn
  simp only [Sem.run_bind, run_underlying ht, Result.andThen_ok, run_sizeOf (info_of_underlying he), hs, Nat.mul_one]
  rw [Std.Legacy.Range.forIn_eq_forIn_range']
  rw [key _ 0 (by simp [Std.Legacy.Range.size]) _ (fun i hi => by
    simp only [Sem.run_bind, hp f i hi, Result.andThen_ok, hp g i hi]
    simp only [Op.equalIn, Sem.run_bind, run_underlying he, Result.andThen_ok, if_true, Sem.run_pure]
    cases (f i == g i) <;> rfl)]
  simp only [eqA, List.range_eq_range', Result.andThen_ok, Std.Legacy.Range.size, Nat.sub_zero, Nat.add_sub_cancel, Nat.div_one]
  cases (List.range' 0 l).all fun i => f i == g i <;> rfl

theorem arr_single {φ m k n f} {cs : List Ck} {v : Value} (hcs : cs = [.arr k n f]) {l : List Value} (h : FlatR φ m cs l) : l = (List.range n).map fun i => .int k (f i) := by
  subst hcs
  obtain ⟨l1, l2, rfl, h1, h2⟩ := h
  simp only [FlatR] at h2; subst h2
  simpa [Ck.R] using h1

theorem eqTyp_und {P : Program} {d t cs ds b} (h : eqTyp P d t cs ds = some b) : ∃ dd, P.underlying t = some dd := by
  cases d with
  | zero => simp [eqTyp] at h
  | succ d =>
    cases hu : P.underlying t with
    | some dd => exact ⟨dd, rfl⟩
    | none => simp [eqTyp, hu] at h

theorem eqTyp_sound {P : Program} {φ m} {w : World} : ∀ (d : Nat) (t : TypeId) (cs ds : List Ck) (b : Bool) (v v' : Value), eqTyp P d t cs ds = some b →
    ValR P φ m t cs v → ValR P φ m t ds v' → ∀ j, (Op.equalIn (d + j) t v v').run P w = .ok b w
  | 0, t, cs, ds, b, v, v', h, _, _, _ => by simp [eqTyp] at h
  | d + 1, t, cs, ds, b, v, v', h, hv, hv', j => by
    have ih := eqTyp_sound (P := P) (φ := φ) (m := m) (w := w) d
    simp only [eqTyp] at h
    unfold ValR at hv hv'
    rw [show d + 1 + j = (d + j) + 1 from by omega]
    split at h
    · next k1 k a k' b' hu =>
      have hn : isAggB P t = false := by simp [isAggB, hu]
      simp only [hn, Bool.false_eq_true, if_false] at hv hv'
      obtain ⟨c, e, hc⟩ := hv; obtain ⟨c', e', hc'⟩ := hv'
      simp at e e'; subst e e'
      simp only [Ck.R, List.cons.injEq, and_true] at hc hc'
      subst hc hc'
      split at h
      · next hk => subst hk; simp at h; subst h; simp [Op.equalIn, run_underlying hu]
      · cases h
    · next a b' hu =>
      have hn : isAggB P t = false := by simp [isAggB, hu]
      simp only [hn, Bool.false_eq_true, if_false] at hv hv'
      obtain ⟨c, e, hc⟩ := hv; obtain ⟨c', e', hc'⟩ := hv'
      simp at e e'; subst e e'
      simp only [Ck.R, List.cons.injEq, and_true] at hc hc'
      subst hc hc'
      simp at h; subst h; simp [Op.equalIn, run_underlying hu]
    · next a b' hu =>
      have hn : isAggB P t = false := by simp [isAggB, hu]
      simp only [hn, Bool.false_eq_true, if_false] at hv hv'
      obtain ⟨c, e, hc⟩ := hv; obtain ⟨c', e', hc'⟩ := hv'
      simp at e e'; subst e e'
      simp only [Ck.R, List.cons.injEq, and_true] at hc hc'
      subst hc hc'
      simp at h; subst h; simp [Op.equalIn, run_underlying hu, strEq, beq_toListBytes]
    · next l e k n f k' n' g hu =>
      have hn : isAggB P t = true := by simp [isAggB, hu]
      simp only [hn, if_true] at hv hv'
      obtain ⟨l1, rfl, hf⟩ := hv; obtain ⟨l2, rfl, hf'⟩ := hv'
      have e1 := arr_single (v := .nilFunc) rfl hf
      have e2 := arr_single (v := .nilFunc) rfl hf'
      subst e1 e2
      split at h
      · next ki he =>
        split at h
        · next hh =>
          obtain ⟨rfl, rfl, rfl, hs, hd⟩ := hh
          simp at h; subst h
          rw [show d + j + 1 = (d + j - 1) + 2 from by omega]
          exact run_equalArr hu he hs
        · cases h
      · cases h
    · next fs hu =>
      have hn : isAggB P t = true := by simp [isAggB, hu]
      simp only [hn, if_true] at hv hv'
      obtain ⟨l1, rfl, hf⟩ := hv; obtain ⟨l2, rfl, hf'⟩ := hv'
      split at h
      · next hst =>
        have hfo : P.fieldsOf t = fs := by simp [Program.fieldsOf, hu]
        rw [run_equalIn_struct w (d + j) t _ _ (by rw [hfo]; exact hu) hst, hfo]
        exact run_eqFields (eqTyp P d) (fun t cs ds b v v' h1 h2 h3 => ih t cs ds b v v' h1 h2 h3 j) (fun t cs ds b h => eqTyp_und h) hf hf' _ _ h
      · cases h
    · cases h

end Go.Sx
