/-
  A function's contract out of its body.
-/
import Derived.Test.YtagooceoocohpaaSyU
set_option linter.unusedVariables false
namespace Go.Sx

theorem callFunc_enter {P : Program} {K : FuncId} {fn : Func} (hf : P.funcs[K]? = some fn) (hn : (fn.name == "runtime.NumGoroutine") = false) (hb : fn.body.isNone = false) (args : Array Value) (w : World) :
    (callFunc K args).run P w = .ok (.enter K args) w := by
  have hn' : ¬ fn.name = "runtime.NumGoroutine" := by simpa using hn
  have hb' : ¬ fn.body = none := fun e => by rw [e] at hb; cases hb
  simp [callFunc, go_sem, hf, hn', hb']

/-! ### The state at the start -/

def ro : AObj → AObj
  | .list T xs _ => .list T xs false
  | o => o

def svOfPT : Bool × List Ck → SV
  | (true, cs) => .agg cs
  | (false, [c]) => .sc c
  | (false, _) => .none

def nth (l : List (Bool × List Ck)) (t : Nat) : SV := match l[t]? with
  | some p => svOfPT p
  | none => .none

def pbase : Nat := 100000

def initSt (ps : List PT) (x : PDen ps) (n : Nat) : St :=
  let u := encPTs pbase ps x
  { fr := nth u.1, n := n, mem := { objs := fun i => (lookOb u.2.1 i).map ro, used := memB (u.2.1.map (·.1)) } }

/-- What is asked of the place of a slice that came as an argument. -/
def Fit (w : World) (p : Place) : AObj → Prop
  | .list T xs _ => (xs = [] ∧ p.cap = 0) ∨ ∃ b o arr E fr pre post, p.base = some ⟨b, o, none⟩ ∧ w.heap[b]? = some (.cells arr E fr) ∧ arr.toList = pre ++ xs.flatMap T.cells ++ post ∧ pre.length = o ∧ xs.length ≤ p.cap ∧ o + p.cap * T.size ≤ arr.size
  | _ => False

/-- The names from k to k' are given out. -/
structure Took (w : World) (φ0 : Nat → Place) (k k' : Nat) (adds : List (Nat × AObj)) (φ' : Nat → Place) : Prop where
  le : k ≤ k'
  keep : ∀ i, i < k → φ' i = φ0 i
  each : ∀ p ∈ adds, k ≤ p.1 ∧ p.1 < k' ∧ Fit w (φ' p.1) p.2
  nodup : (adds.map (·.1)).Nodup

theorem Took.trans {w : World} {φ0 φ1 φ2 : Nat → Place} {k k1 k2 : Nat} {A B : List (Nat × AObj)} (h : Took w φ0 k k1 A φ1) (h' : Took w φ1 k1 k2 B φ2) : Took w φ0 k k2 (A ++ B) φ2 where
  le := Nat.le_trans h.le h'.le
  keep := fun i hi => (h'.keep i (Nat.lt_of_lt_of_le hi h.le)).trans (h.keep i hi)
  each := fun p hp => by
    rcases List.mem_append.1 hp with hp | hp
    · obtain ⟨a1, a2, a3⟩ := h.each p hp
      exact ⟨a1, Nat.lt_of_lt_of_le a2 h'.le, by rw [h'.keep p.1 a2]; exact a3⟩
    · obtain ⟨a1, a2, a3⟩ := h'.each p hp
      exact ⟨Nat.le_trans h.le a1, a2, a3⟩
  nodup := by
    rw [List.map_append]
    refine List.nodup_append.2 ⟨h.nodup, h'.nodup, fun i hi j hj e => ?_⟩
    subst e
    obtain ⟨p, hp, rfl⟩ := List.mem_map.1 hi
    obtain ⟨q, hq, e⟩ := List.mem_map.1 hj
    have := (h.each p hp).2.1
    have := (h'.each q hq).1
    omega

/-- What the chunks say holds wherever the names have these places and stand for these lists. -/
def Says (φ' : Nat → Place) (k' : Nat) (adds : List (Nat × AObj)) (cs : List Ck) (l : List Value) : Prop :=
  ∀ (φ : Nat → Place) (m : Nat → Option AObj), (∀ i, i < k' → φ i = φ' i) → (∀ p ∈ adds, m p.1 = some (ro p.2)) → FlatR φ m cs l

theorem R_of_sl {φ : Nat → Place} {m : Nat → Option AObj} {k : Nat} {T : Ty} {xs : List T.den} {o : Bool} (h : m k = some (.list T xs o)) : (Ck.sl k).R φ m [.slice (φ k).base xs.length (φ k).cap] := by
  simp [Ck.R, h]

theorem took_D {w : World} {d : DT} {x : d.den} {l : List Value} (h : DeepD w d x l) (k : Nat) (φ0 : Nat → Place) :
    ∃ φ', Took w φ0 k (encDT k d x).2.2 (encDT k d x).2.1 φ' ∧ Says φ' (encDT k d x).2.2 (encDT k d x).2.1 (encDT k d x).1 l := by
  cases d with
  | ty T =>
    have h : l = T.cells x := h
    subst h
    exact ⟨φ0, ⟨Nat.le_refl _, fun _ _ => rfl, by simp [encDT], by simp [encDT]⟩, fun φ m _ _ => FlatR.enc T x⟩
  | list T =>
    obtain ⟨a, c, rfl, hlen, hl⟩ := h
    refine ⟨updP φ0 k ⟨a, c⟩, ⟨Nat.le_succ _, fun i hi => ?_, fun p hp => ?_, by simp [encDT]⟩, fun φ m hφ hm => ?_⟩
    · have : i ≠ k := by omega
      simp [updP, this]
    · simp [encDT] at hp
      subst hp
      refine ⟨Nat.le_refl _, Nat.lt_succ_self _, ?_⟩
      rcases hl with rfl | ⟨b, o, arr, E, fr, pre, post, rfl, h1, h2, h3, h4⟩
      · exact .inl ⟨List.length_eq_zero_iff.1 (by omega), by simp [updP]⟩
      · exact .inr ⟨b, o, arr, E, fr, pre, post, by simp [updP], h1, h2, h3, by simpa [updP] using hlen, by simpa [updP] using h4⟩
    · refine ⟨_, [], (List.append_nil _).symm, ?_, rfl⟩
      have h1 : m k = some (.list T x false) := hm (k, .list T x true) (by simp [encDT])
      have h2 : φ k = ⟨a, c⟩ := (hφ k (by simp [encDT])).trans (by simp [updP])
      have h3 := R_of_sl (φ := φ) h1
      rw [h2] at h3
      exact h3

theorem Says.append {φ1 φ2 : Nat → Place} {k1 k2 : Nat} {A B : List (Nat × AObj)} {cs ds : List Ck} {l1 l2 : List Value} {w : World} {k : Nat} {φ0 : Nat → Place} (h : Says φ1 k1 A cs l1) (ht : Took w φ1 k1 k2 B φ2) (h' : Says φ2 k2 B ds l2) :
    Says φ2 k2 (A ++ B) (cs ++ ds) (l1 ++ l2) := fun φ m hφ hm =>
  FlatR.append (h φ m (fun i hi => (hφ i (Nat.lt_of_lt_of_le hi ht.le)).trans (ht.keep i hi)) fun p hp => hm p (by simp [hp])) (h' φ m hφ fun p hp => hm p (by simp [hp]))

theorem took_Ds {w : World} : ∀ (ds : List DT) (x : Dens ds) (l : List Value), DeepDs w ds x l → ∀ (k : Nat) (φ0 : Nat → Place),
    ∃ φ', Took w φ0 k (encDTs k ds x).2.2 (encDTs k ds x).2.1 φ' ∧ Says φ' (encDTs k ds x).2.2 (encDTs k ds x).2.1 (encDTs k ds x).1 l
  | [], x, l, h, k, φ0 => by
    have h : l = [] := h
    subst h
    exact ⟨φ0, ⟨Nat.le_refl _, fun _ _ => rfl, by simp [encDTs], by simp [encDTs]⟩, fun φ m _ _ => rfl⟩
  | [d], x, l, h, k, φ0 => took_D h k φ0
  | d :: e :: r, p, l, h, k, φ0 => by
    obtain ⟨l1, l2, rfl, h1, h2⟩ := h
    obtain ⟨φ1, t1, s1⟩ := took_D h1 k φ0
    obtain ⟨φ2, t2, s2⟩ := took_Ds (e :: r) p.2 l2 h2 _ φ1
    exact ⟨φ2, t1.trans t2, s1.append (k := k) (φ0 := φ0) t2 s2⟩

theorem took_P {w : World} {p : PT} {x : Dens p.ts} {v : Value} (h : DeepP w p x v) (k : Nat) (φ0 : Nat → Place) :
    ∃ φ', Took w φ0 k (encDTs k p.ts x).2.2 (encDTs k p.ts x).2.1 φ' ∧
      ∀ (φ : Nat → Place) (m : Nat → Option AObj), (∀ i, i < (encDTs k p.ts x).2.2 → φ i = φ' i) → (∀ q ∈ (encDTs k p.ts x).2.1, m q.1 = some (ro q.2)) → (svOfPT (p.agg, (encDTs k p.ts x).1)).R φ m v := by
  unfold DeepP at h
  by_cases hp : p.agg = true
  · rw [if_pos hp] at h
    obtain ⟨l, rfl, h⟩ := h
    obtain ⟨φ', t, s⟩ := took_Ds _ _ _ h k φ0
    exact ⟨φ', t, fun φ m hφ hm => by rw [hp]; exact ⟨l, rfl, s φ m hφ hm⟩⟩
  · rw [if_neg hp] at h
    have hp' : p.agg = false := by simpa using hp
    obtain ⟨φ', t, s⟩ := took_Ds _ _ _ h k φ0
    refine ⟨φ', t, fun φ m hφ hm => ?_⟩
    have hf := s φ m hφ hm
    rw [hp']
    generalize (encDTs k p.ts x).1 = cs at hf
    cases cs with
    | nil => trivial
    | cons c cs =>
      cases cs with
      | nil =>
        obtain ⟨l1, l2, e, h1, h2⟩ := hf
        have h2 : l2 = [] := h2
        subst h2
        simp only [List.append_nil] at e
        rw [← e] at h1
        exact h1
      | cons _ _ => trivial

theorem took_Ps {w : World} : ∀ (ps : List PT) (x : PDen ps) (vs : List Value), ArgsIn w ps x vs → ∀ (k : Nat) (φ0 : Nat → Place),
    ∃ φ', Took w φ0 k (encPTs k ps x).2.2 (encPTs k ps x).2.1 φ' ∧
      ∀ (φ : Nat → Place) (m : Nat → Option AObj), (∀ i, i < (encPTs k ps x).2.2 → φ i = φ' i) → (∀ q ∈ (encPTs k ps x).2.1, m q.1 = some (ro q.2)) →
        ∀ (t : Nat) (v : Value), vs[t]? = some v → (nth (encPTs k ps x).1 t).R φ m v
  | [], x, vs, h, k, φ0 => by
    have h : vs = [] := h
    subst h
    exact ⟨φ0, ⟨Nat.le_refl _, fun _ _ => rfl, by simp [encPTs], by simp [encPTs]⟩, fun φ m _ _ t v hv => by simp at hv⟩
  | [p], x, vs, h, k, φ0 => by
    obtain ⟨v, rfl, h⟩ := h
    obtain ⟨φ', t1, s1⟩ := took_P h k φ0
    refine ⟨φ', t1, fun φ m hφ hm t u hu => ?_⟩
    cases t with
    | zero => simp at hu; subst hu; exact s1 φ m hφ hm
    | succ t => simp at hu
  | p :: q :: r, x, vs, h, k, φ0 => by
    obtain ⟨v, rest, rfl, h1, h2⟩ := h
    obtain ⟨φ1, t1, s1⟩ := took_P h1 k φ0
    obtain ⟨φ2, t2, s2⟩ := took_Ps (q :: r) x.2 rest h2 _ φ1
    refine ⟨φ2, t1.trans t2, fun φ m hφ hm t u hu => ?_⟩
    cases t with
    | zero =>
      simp at hu
      subst hu
      exact s1 φ m (fun i hi => (hφ i (Nat.lt_of_lt_of_le hi t2.le)).trans (t2.keep i hi)) fun q hq => hm q (by simp [encPTs, hq])
    | succ t =>
      have := s2 φ m hφ (fun q hq => hm q (by simp only [encPTs]; exact List.mem_append_right _ hq)) t u (by simpa using hu)
      simpa [nth, encPTs] using this

theorem ArgsIn.length {w : World} : ∀ {ps : List PT} {x : PDen ps} {vs : List Value}, ArgsIn w ps x vs → vs.length = ps.length
  | [], x, vs, h => by have h : vs = [] := h; simp [h]
  | [p], x, vs, h => by obtain ⟨v, rfl, _⟩ := h; rfl
  | p :: q :: r, x, vs, h => by obtain ⟨v, rest, rfl, _, h2⟩ := h; simp [h2.length]

theorem encPTs_length : ∀ (ps : List PT) (x : PDen ps) (k : Nat), (encPTs k ps x).1.length = ps.length
  | [], x, k => rfl
  | [p], x, k => rfl
  | p :: q :: r, x, k => by simp only [encPTs, List.length_cons]; rw [encPTs_length (q :: r)]; simp

theorem lookOb_mem : ∀ {l : List (Nat × AObj)}, (l.map (·.1)).Nodup → ∀ p ∈ l, lookOb l p.1 = some p.2
  | [], _, p, hp => by cases hp
  | (i, o) :: r, hn, p, hp => by
    simp only [List.map_cons, List.nodup_cons] at hn
    unfold lookOb
    rcases List.mem_cons.1 hp with rfl | hp
    · simp
    · have hne : p.1 ≠ i := fun e => hn.1 (e ▸ List.mem_map.2 ⟨p, hp, rfl⟩)
      have : Nat.beq p.1 i = false := by cases h : Nat.beq p.1 i with
        | false => rfl
        | true => exact absurd (Nat.eq_of_beq_eq_true h) hne
      rw [this]
      exact lookOb_mem hn.2 p hp

theorem encDT_kind {d : DT} {x : d.den} {k : Nat} : ∀ p ∈ (encDT k d x).2.1, ∃ T xs, p.2 = .list T xs true := by
  cases d with
  | ty T => simp [encDT]
  | list T => intro p hp; simp [encDT] at hp; subst hp; exact ⟨T, x, rfl⟩

theorem initSt_rel {ps : List PT} {x : PDen ps} {n : Nat} {w : World} {vs : List Value} (h : ArgsIn w ps x vs) (hn : ps.length ≤ n) :
    ∃ φ, Rel w Fp.no φ (initSt ps x n) { tmps := vs.toArray ++ Array.replicate (n - vs.toArray.size) undef, defers := [] } w := by
  obtain ⟨φ, ht, hs⟩ := took_Ps ps x vs h pbase fun _ => ⟨none, 0⟩
  have hm : ∀ q ∈ (encPTs pbase ps x).2.1, (initSt ps x n).mem.objs q.1 = some (ro q.2) := fun q hq => by
    simp only [initSt]
    rw [lookOb_mem ht.nodup q hq]; rfl
  have hobj : ∀ i o, (initSt ps x n).mem.objs i = some o → ∃ T xs, o = .list T xs false ∧ i ∈ (encPTs pbase ps x).2.1.map (·.1) ∧ Fit w (φ i) o := fun i o hi => by
    simp only [initSt] at hi
    rcases lookOb_spec (encPTs pbase ps x).2.1 i with h0 | ⟨o', h1, h2⟩
    · rw [h0] at hi; cases hi
    · rw [h1] at hi
      simp only [Option.map_some, Option.some.injEq] at hi
      have h3 := (ht.each _ h2).2.2
      cases o' with
      | var cs => exact h3.elim
      | map K V es => exact h3.elim
      | list T xs ow =>
        simp only [ro] at hi
        subst hi
        exact ⟨T, xs, rfl, List.mem_map.2 ⟨_, h2, rfl⟩, h3⟩
  have hfr : ∀ t, ((initSt ps x n).fr t).R φ (initSt ps x n).mem.objs ((vs.toArray ++ Array.replicate (n - vs.toArray.size) undef).getD t undef) := fun t => by
    rcases Nat.lt_or_ge t vs.length with hlt | hge
    · have h1 : vs[t]? = some vs[t] := by simp [hlt]
      have := hs φ (initSt ps x n).mem.objs (fun _ _ => rfl) hm t _ h1
      have e : (vs.toArray ++ Array.replicate (n - vs.toArray.size) undef).getD t undef = vs[t] := by
        rw [Array.getD_eq_getD_getElem?, Array.getElem?_append_left (by simpa using hlt)]
        simp [hlt]
      rw [e]
      exact this
    · have : (initSt ps x n).fr t = .none := by
        simp only [initSt, nth]
        have hl := encPTs_length ps x pbase
        have := h.length
        rw [List.getElem?_eq_none (by omega)]
      rw [this]
      trivial
  -- ids within the slots
  have hids : ∀ t, ∀ i ∈ ((initSt ps x n).fr t).ids, (initSt ps x n).mem.used i = true := by
    have hD : ∀ (d : DT) (x : d.den) (k : Nat), ∀ i ∈ Cks.ids (encDT k d x).1, i ∈ (encDT k d x).2.1.map (·.1) := by
      intro d x k i hi
      cases d with
      | ty T => have hi : i ∈ Cks.ids (T.enc x) := hi; have e := enc_ids T x; rw [e] at hi; cases hi
      | list T => simp [encDT, Cks.ids, Ck.ids] at hi ⊢; exact hi
    have happ : ∀ (a b : List Ck), Cks.ids (a ++ b) = Cks.ids a ++ Cks.ids b := by
      intro a b
      induction a with
      | nil => rfl
      | cons c a ih => simp [Cks.ids, ih]
    have hDs : ∀ (ds : List DT) (x : Dens ds) (k : Nat), ∀ i ∈ Cks.ids (encDTs k ds x).1, i ∈ (encDTs k ds x).2.1.map (·.1) := by
      intro ds
      induction ds with
      | nil => intro x k i hi; cases hi
      | cons d r ih =>
        intro x k i hi
        cases r with
        | nil => exact hD d x k i hi
        | cons e r =>
          simp only [encDTs, happ, List.mem_append, List.map_append] at hi ⊢
          exact hi.imp (hD d x.1 k i) (ih x.2 _ i)
    have hPs : ∀ (ps : List PT) (x : PDen ps) (k : Nat), ∀ p ∈ (encPTs k ps x).1, ∀ i ∈ Cks.ids p.2, i ∈ (encPTs k ps x).2.1.map (·.1) := by
      intro ps
      induction ps with
      | nil => intro x k p hp; cases hp
      | cons q r ih =>
        intro x k p hp i hi
        cases r with
        | nil => simp [encPTs] at hp; subst hp; exact hDs q.ts x k i hi
        | cons e r =>
          simp only [encPTs, List.mem_cons, List.map_append, List.mem_append] at hp ⊢
          rcases hp with rfl | hp
          · exact .inl (hDs q.ts x.1 k i hi)
          · exact .inr (ih x.2 _ p hp i hi)
    intro t i hi
    simp only [initSt] at hi ⊢
    refine memB_iff.2 ?_
    unfold nth at hi
    split at hi
    · next p hp =>
      have hmem := List.mem_of_getElem? hp
      refine hPs ps x pbase p hmem i ?_
      obtain ⟨b, cs⟩ := p
      cases b with
      | true => exact hi
      | false =>
        cases cs with
        | nil => cases hi
        | cons c cs => cases cs with
          | nil => simpa [svOfPT, SV.ids, Cks.ids] using hi
          | cons _ _ => cases hi
    · cases hi
  refine ⟨φ, ⟨rfl, ?_, hfr, hids, ?_, ?_, ?_, ?_, ?_, fun _ hf => hf.elim, Old.refl _ w, fun p hp => by cases hp⟩⟩
  · have := h.length
    simp only [initSt, Array.size_append, List.size_toArray, Array.size_replicate]
    omega
  · intro j o hj i hi
    obtain ⟨T, xs, rfl, _⟩ := hobj j o hj
    cases hi
  · intro j o hj
    obtain ⟨T, xs, rfl, h1, _⟩ := hobj j o hj
    simp only [initSt]
    exact memB_iff.2 h1
  · intro i o hi
    obtain ⟨T, xs, rfl, _, h2⟩ := hobj i o hi
    rcases h2 with h2 | ⟨b, o', arr, E, fr, pre, post, q1, q2, q3, q4, q5, q6⟩
    · exact .inl h2
    · exact .inr ⟨b, o', arr, E, fr.1, fr.2, pre, post, q1, q2, q3, q4, q5, q6, fun e => by cases e⟩
  · intro i j b hi hj
    rcases hi with ⟨cs, h1, _⟩ | ⟨T, xs, o, h1, _⟩ | ⟨K, V, es, h1, _⟩
    · obtain ⟨T, xs, e, _⟩ := hobj _ _ h1; cases e
    · obtain ⟨T', xs', e, _⟩ := hobj _ _ h1; cases e
    · obtain ⟨T', xs', e, _⟩ := hobj _ _ h1; cases e
  · intro i T xs hi
    obtain ⟨T', xs', e, _, h2⟩ := hobj i _ hi
    rcases h2 with h2 | ⟨b, o', arr, E, fr, pre, post, q1, q2, _⟩
    · exact .inr (.inl h2)
    · exact .inr (.inr ⟨b, o', q1, (Array.getElem?_eq_some_iff.1 q2).1, fun hf => hf⟩)

/-! ### The results -/

def outDT (V : Nat → Option AObj) (S : List Nat) : (d : DT) → List Ck → Option (Bool × d.den × List Ck × List Nat)
  | .ty T, cs => (match T.dec cs with
    | some (x, r) => some (true, x, r, S)
    | none => none)
  | .list T, c :: r => (match baseOf V T c with
    | some (b, none, xs) => some (b, xs, r, S)
    | some (b, some k, xs) => (match memB S k with
      | true => none
      | false => some (b, xs, r, k :: S))
    | none => none)
  | .list _, [] => none

def outDTs (V : Nat → Option AObj) (S : List Nat) : (ds : List DT) → List Ck → Option (Bool × Dens ds × List Nat)
  | [], cs => (match cs with
    | [] => some (true, (), S)
    | _ => none)
  | [d], cs => (match outDT V S d cs with
    | some (b, x, [], S') => some (b, x, S')
    | _ => none)
  | d :: e :: r, cs => (match outDT V S d cs with
    | some (b, x, rest, S') => (match outDTs V S' (e :: r) rest with
      | some (c, y, S'') => some (b && c, (x, y), S'')
      | none => none)
    | none => none)

def outPT (V : Nat → Option AObj) (S : List Nat) (p : PT) (v : SV) : Option (Bool × Dens p.ts × List Nat) :=
  match v.asPT p.agg with
  | some cs => outDTs V S p.ts cs
  | none => none

def outPTs (V : Nat → Option AObj) (S : List Nat) : (ps : List PT) → List SV → Option (Bool × PDen ps)
  | [], vs => (match vs with
    | [] => some (true, ())
    | _ => none)
  | [p], vs => (match vs with
    | [v] => (match outPT V S p v with
      | some (b, x, _) => some (b, x)
      | none => none)
    | _ => none)
  | p :: q :: r, vs => (match vs with
    | v :: vs => (match outPT V S p v with
      | some (b, x, S') => (match outPTs V S' (q :: r) vs with
        | some (c, y) => some (b && c, PDen.mk2 x y)
        | none => none)
      | none => none)
    | [] => none)

section
variable {φ : Nat → Place} {s : St} {w0 : World} {a : Act} {w : World}

/-- The blocks that have been handed out are those of the names in S. -/
def Held (φ : Nat → Place) (m : Nat → Option AObj) (S seen : List Nat) : Prop := ∀ b ∈ seen, ∃ i ∈ S, ownBlock φ m i b

theorem out_D (h : Rel w0 Fp.no φ s a w) {d : DT} {cs r : List Ck} {x : d.den} {S S' seen : List Nat} {l : List Value} (hx : outDT s.mem.objs S d cs = some (true, x, r, S')) (hl : FlatR φ s.mem.objs cs l) (hS : Held φ s.mem.objs S seen) :
    ∃ l1 l2 seen', l = l1 ++ l2 ∧ NewD w0.heap.size w d x l1 seen seen' ∧ FlatR φ s.mem.objs r l2 ∧ Held φ s.mem.objs S' seen' := by
  cases d with
  | ty T =>
    simp only [outDT] at hx
    split at hx
    · next y q hy =>
      cases hx
      have e := Ty.dec_enc hy
      subst e
      obtain ⟨l1, l2, rfl, h1, h2⟩ := FlatR.of_append hl
      exact ⟨l1, l2, seen, rfl, ⟨FlatR.of_enc T _ l1 h1, rfl⟩, h2, hS⟩
    · cases hx
  | list T =>
    cases cs with
    | nil => cases hx
    | cons c cs =>
      obtain ⟨l1, l2, rfl, h1, h2⟩ := hl
      have hlen := Ck.R_length h1
      simp only [outDT] at hx
      have hone : ∀ {b k xs}, baseOf s.mem.objs T c = some (b, k, xs) → ∃ v, l1 = [v] := by
        intro b k xs hb
        have : c.sz = 1 := by
          unfold baseOf at hb
          split at hb <;> first | rfl | cases hb
        rw [this] at hlen
        match l1, hlen with
        | [v], _ => exact ⟨v, rfl⟩
      split at hx
      · next b xs hb =>
        cases hx
        obtain ⟨v, rfl⟩ := hone hb
        obtain ⟨base, cap, rfl, hc⟩ := baseOf_spec h hb h1
        rcases hc with ⟨rfl, rfl⟩ | ⟨_, _, _, _, _, _, _, _, k, _, e, _⟩
        · exact ⟨_, l2, seen, rfl, ⟨base, 0, rfl, .inl ⟨rfl, rfl, rfl⟩⟩, h2, hS⟩
        · cases e
      · next b k xs hb =>
        split at hx
        · cases hx
        · next hk =>
          cases hx
          obtain ⟨v, rfl⟩ := hone hb
          obtain ⟨base, cap, rfl, hc⟩ := baseOf_spec h hb h1
          rcases hc with ⟨rfl, rfl⟩ | ⟨b, o, arr, E, lo, hi, pre, post, k', rfl, e, hown, q1, q2, q3, q4, q5, q6, q7⟩
          · exact ⟨_, l2, seen, rfl, ⟨base, 0, rfl, .inl ⟨rfl, rfl, rfl⟩⟩, h2, fun b hb => by obtain ⟨i, hi, ho⟩ := hS b hb; exact ⟨i, by simp [hi], ho⟩⟩
          · cases e
            refine ⟨_, l2, b :: seen, rfl, ⟨_, cap, rfl, .inr ⟨b, o, arr, E, lo, hi, pre, post, rfl, q1, q2, q3, q4, q5, q6, q7.resolve_right (fun h => h), fun hbs => ?_, rfl⟩⟩, h2, fun b' hb' => ?_⟩
            · obtain ⟨i, hi, ho⟩ := hS b hbs
              have := h.inj i k b ho hown
              subst this
              rw [memB_iff.2 hi] at hk
              cases hk
            · rcases List.mem_cons.1 hb' with rfl | hb'
              · exact ⟨k, by simp, hown⟩
              · obtain ⟨i, hi, ho⟩ := hS b' hb'; exact ⟨i, by simp [hi], ho⟩
      · cases hx

theorem out_Ds (h : Rel w0 Fp.no φ s a w) : ∀ (ds : List DT) (cs : List Ck) (x : Dens ds) (S S' seen : List Nat) (l : List Value), outDTs s.mem.objs S ds cs = some (true, x, S') → FlatR φ s.mem.objs cs l → Held φ s.mem.objs S seen →
    ∃ seen', NewDs w0.heap.size w ds x l seen seen' ∧ Held φ s.mem.objs S' seen'
  | [], cs, x, S, S', seen, l, hx, hl, hS => by
    simp only [outDTs] at hx
    split at hx
    · cases hx
      exact ⟨seen, ⟨hl, rfl⟩, hS⟩
    · cases hx
  | [d], cs, x, S, S', seen, l, hx, hl, hS => by
    simp only [outDTs] at hx
    split at hx
    · next b y S1 hy =>
      obtain ⟨e1, e2⟩ := Prod.mk.inj (Option.some.inj hx)
      obtain ⟨e2, e3⟩ := Prod.mk.inj e2
      obtain rfl : y = x := e2
      subst e1 e3
      obtain ⟨l1, l2, seen', rfl, h1, h2, h3⟩ := out_D h hy hl hS
      have h2 : l2 = [] := h2
      subst h2
      exact ⟨seen', by rw [List.append_nil]; exact h1, h3⟩
    · cases hx
  | d :: e :: r, cs, x, S, S', seen, l, hx, hl, hS => by
    simp only [outDTs] at hx
    split at hx
    · next b y rest S1 hy =>
      split at hx
      · next c z S2 hz =>
        obtain ⟨e1, e2⟩ := Prod.mk.inj (Option.some.inj hx)
        obtain ⟨e2, e3⟩ := Prod.mk.inj e2
        obtain rfl : (y, z) = x := e2
        subst e3
        simp only [Bool.and_eq_true] at e1
        obtain ⟨rfl, rfl⟩ := e1
        obtain ⟨l1, l2, seen', rfl, h1, h2, h3⟩ := out_D h hy hl hS
        obtain ⟨seen2, h4, h5⟩ := out_Ds h (e :: r) rest z S1 S2 seen' l2 hz h2 h3
        exact ⟨seen2, ⟨l1, l2, seen', rfl, h1, h4⟩, h5⟩
      · cases hx
    · cases hx

theorem out_P (h : Rel w0 Fp.no φ s a w) {p : PT} {v : SV} {x : Dens p.ts} {S S' seen : List Nat} {val : Value} (hx : outPT s.mem.objs S p v = some (true, x, S')) (hv : v.R φ s.mem.objs val) (hS : Held φ s.mem.objs S seen) :
    ∃ seen', NewP w0.heap.size w p x val seen seen' ∧ Held φ s.mem.objs S' seen' := by
  unfold outPT at hx
  split at hx
  · next cs hcs =>
    unfold SV.asPT at hcs
    split at hcs
    · next ds =>
      split at hcs
      · next hp =>
        cases hcs
        obtain ⟨l, rfl, hl⟩ := hv
        obtain ⟨seen', h1, h2⟩ := out_Ds h _ _ _ _ _ _ _ hx hl hS
        exact ⟨seen', by unfold NewP; rw [if_pos hp]; exact ⟨l, rfl, h1⟩, h2⟩
      · cases hcs
    · next c =>
      split at hcs
      · cases hcs
      · next hp =>
        cases hcs
        obtain ⟨seen', h1, h2⟩ := out_Ds h p.ts [c] x S S' seen [val] hx ⟨[val], [], rfl, hv, rfl⟩ hS
        exact ⟨seen', by unfold NewP; rw [if_neg hp]; exact h1, h2⟩
    · cases hcs
  · cases hx

theorem out_Ps (h : Rel w0 Fp.no φ s a w) : ∀ (ps : List PT) (vs : List SV) (x : PDen ps) (S seen : List Nat) (vals : List Value), outPTs s.mem.objs S ps vs = some (true, x) → All2 (fun v val => SV.R φ s.mem.objs v val) vs vals → Held φ s.mem.objs S seen →
    ∃ seen', NewPs w0.heap.size w ps x vals seen seen'
  | [], vs, x, S, seen, vals, hx, hv, hS => by
    cases vs with
    | nil => cases vals with
      | nil => exact ⟨seen, rfl, rfl⟩
      | cons _ _ => exact hv.elim
    | cons _ _ => cases hx
  | [p], vs, x, S, seen, vals, hx, hv, hS => by
    cases vs with
    | nil => cases hx
    | cons v vs =>
      cases vs with
      | cons _ _ => cases hx
      | nil =>
        cases vals with
        | nil => exact hv.elim
        | cons val vals =>
          obtain ⟨hv1, hv2⟩ := hv
          cases vals with
          | cons _ _ => exact hv2.elim
          | nil =>
            simp only [outPTs] at hx
            split at hx
            · next b y S' hy =>
              obtain ⟨e1, e2⟩ := Prod.mk.inj (Option.some.inj hx)
              obtain rfl : y = x := e2
              subst e1
              obtain ⟨seen', h1, _⟩ := out_P h hy hv1 hS
              exact ⟨seen', val, rfl, h1⟩
            · cases hx
  | p :: q :: r, vs, x, S, seen, vals, hx, hv, hS => by
    cases vs with
    | nil => cases hx
    | cons v vs =>
      cases vals with
      | nil => exact hv.elim
      | cons val vals =>
        obtain ⟨hv1, hv2⟩ := hv
        simp only [outPTs] at hx
        split at hx
        · next b y S' hy =>
          split at hx
          · next c z hz =>
            obtain ⟨e1, e2⟩ := Prod.mk.inj (Option.some.inj hx)
            obtain rfl : PDen.mk2 y z = x := e2
            simp only [Bool.and_eq_true] at e1
            obtain ⟨rfl, rfl⟩ := e1
            obtain ⟨seen', h1, h2⟩ := out_P h hy hv1 hS
            obtain ⟨seen2, h3⟩ := out_Ps h (q :: r) vs z S' seen' vals hz hv2 h2
            exact ⟨seen2, val, vals, seen', rfl, h1, h3⟩
          · cases hx
        · cases hx

end

/-- The values that a return hands over. -/
def resSVs (P : Program) (s : St) : List ResultVar → Option (Bool × List SV)
  | [] => some (true, [])
  | .tmp t :: r => (match resSVs P s r with
    | some (b, l) => some (b, s.fr t :: l)
    | none => none)
  | .cell a t :: r => (match s.fr a with
    | .sc (.ptr _ _) => (match readOp P s.opv s.mem.objs (.load t (.tmp a)) with
      | some (b, v) => (match resSVs P s r with
        | some (c, l) => some (b && c, v :: l)
        | none => none)
      | none => none)
    | _ => none)

theorem resSVs_run {P : Program} {F : Fp} {φ : Nat → Place} {s : St} {w0 : World} {a : Act} {w : World} (h : Rel w0 F φ s a w) (f : ResultVar → Sem Value) (hf : ∀ t, f (.tmp t) = pure (a.tmps.getD t undef))
    (hf2 : ∀ x t, f (.cell x t) = do loadVar t (← asAddr (a.tmps.getD x undef))) : ∀ (l : List ResultVar) (vs : List SV), resSVs P s l = some (true, vs) →
    ∃ vals, (l.mapM f).run P w = .ok vals w ∧ All2 (fun v val => SV.R φ s.mem.objs v val) vs vals
  | [], vs, hs => by
    simp only [resSVs, Option.some.injEq, Prod.mk.injEq, true_and] at hs
    subst hs
    exact ⟨[], by simp, trivial⟩
  | .tmp t :: r, vs, hs => by
    simp only [resSVs] at hs
    split at hs
    · next b l hl =>
      simp only [Option.some.injEq, Prod.mk.injEq] at hs
      obtain ⟨rfl, rfl⟩ := hs
      obtain ⟨vals, h1, h2⟩ := resSVs_run h f hf hf2 r l hl
      exact ⟨a.tmps.getD t undef :: vals, by rw [List.mapM_cons, hf]; simp [h1], h.fr t, h2⟩
    · cases hs
  | .cell x t :: r, vs, hs => by
    simp only [resSVs] at hs
    split at hs
    · next i off hx =>
      split at hs
      · next b v hv =>
        split at hs
        · next c l hl =>
          simp only [Option.some.injEq, Prod.mk.injEq, Bool.and_eq_true] at hs
          obtain ⟨⟨rfl, rfl⟩, rfl⟩ := hs
          obtain ⟨vals, h1, h2⟩ := resSVs_run h f hf hf2 r l hl
          obtain ⟨val, g1, g2⟩ := load_sound (P := P) (w := w) (fun y => (h.opv y).1) h.mem hv
          have hp := h.fr x
          rw [hx] at hp
          obtain ⟨b, hb, hval⟩ := hp
          have hval : a.tmps.getD x undef = .pointer (some ⟨b, off, none⟩) := by simpa using hval
          have hev : a.eval (.tmp x) = .pointer (some ⟨b, off, none⟩) := by rw [← hval]; simp [Act.eval]
          rw [hev] at g1
          simp only [Instr.loadAt, Instr.sureAddr] at g1
          refine ⟨val :: vals, ?_, g2, h2⟩
          rw [List.mapM_cons, hf2, hval]
          simp only [asAddr]
          simp at g1
          simp [h1, g1]
        · cases hs
      · cases hs
    · cases hs

theorem results_run {P : Program} {F : Fp} {φ : Nat → Place} {s : St} {w0 : World} {a : Act} {w : World} (h : Rel w0 F φ s a w) {fn : Func} {vs : List SV} (hs : resSVs P s fn.results.toList = some (true, vs)) :
    ∃ vals, (results fn a.tmps).run P w = .ok (resVal vals) w ∧ All2 (fun v val => SV.R φ s.mem.objs v val) vs vals := by
  obtain ⟨vals, h1, h2⟩ := resSVs_run h (fun | .tmp t => pure (a.tmps.getD t undef) | .cell x t => do loadVar t (← asAddr (a.tmps.getD x undef))) (fun _ => rfl) (fun _ _ => rfl) _ _ hs
  refine ⟨vals, ?_, h2⟩
  unfold results
  rw [Array.mapM_eq_mapM_toList]
  have e : (List.mapM (m := Sem) (fun | .tmp t => pure (a.tmps.getD t undef) | .cell x t => do loadVar t (← asAddr (a.tmps.getD x undef))) fn.results.toList).run P w = .ok vals w := h1
  simp only [Sem.run_bind, Sem.run_map] at e ⊢
  erw [h1]
  simp only [Result.andThen_ok, Sem.run_pure]
  unfold resVal
  match vals with
  | [] => rfl
  | [v] => rfl
  | v :: u :: r => simp

def kRet (P : Program) (C : Ctr) (rv : List ResultVar) (s : St) : Option (PDen C.outs) :=
  match resSVs P s rv with
  | some (c, vs) => (match outPTs s.mem.objs [] C.outs vs with
    | some (b, y) => guardB c (guardB b (some y))
    | none => none)
  | none => none

theorem all2_of {α : Type} {f : α → SV} {g : α → Value} {Rr : SV → Value → Prop} : ∀ (l : List α), (∀ t ∈ l, Rr (f t) (g t)) → All2 Rr (l.map f) (l.map g)
  | [], _ => trivial
  | t :: l, h => ⟨h t (by simp), all2_of l fun u hu => h u (by simp [hu])⟩

/-- **A contract.** -/
theorem Ctr.of_body {E : Env} (hE : E.ok) (hm : E.P.follows .mixedOrders = true) (C : Ctr) {fn : Func} {body : Code} {rv : List ResultVar} (O : List (Nat × Orc)) (hf : E.P.funcs[C.K]? = some fn) (hnm : (fn.name == "runtime.NumGoroutine") = false) (hb : fn.body = some body)
    (hres : fn.results.toList = rv) (hn : C.ins.length ≤ fn.ntmps)
    (h : ∀ x y, C.f x = some y → evK E O body 0 { exits := [], ret := kRet E.P C rv } (kRet E.P C rv) (initSt C.ins x fn.ntmps) = some y) : C.ok E.P := by
  refine fun x y hy w vs hargs => .inl ⟨callFunc_enter hf hnm (by rw [hb]; rfl) _ w, ?_⟩
  obtain ⟨φ, hr⟩ := initSt_rel hargs hn
  have hret : ∀ s' φ' a' w', kRet E.P C rv s' = some y → Rel w Fp.no φ' s' a' w' → bodyPost E.P fn (fun e w' => ∃ rs, e = .returned (resVal rs) ∧ Back w C.outs y rs w') .ret a' w' := by
    intro s' φ' a' w' hk hr'
    unfold kRet at hk
    split at hk
    · next c vs hvs =>
      split at hk
      · next b z hz =>
        obtain ⟨rfl, hk2⟩ := guardB_some hk
        obtain ⟨rfl, e⟩ := guardB_some hk2
        cases e
        subst hres
        obtain ⟨vals, g1, g2⟩ := results_run hr' hvs
        obtain ⟨seen, h1⟩ := out_Ps hr' C.outs vs y [] [] vals hz g2 (fun b hb => by cases hb)
        exact ⟨hr'.defers, _, g1, _, rfl, hr'.old, seen, h1⟩
      · cases hk
    · cases hk
  refine calls_of_wp hf hb (evK_sound hE hm body 0 _ _ _ y _ φ _ w (h x y hy) ⟨(fun p hp => absurd hp (by simp [Fp.no])), ?_, fun id s' φ' a' w' hk _ => (nomatch hk), hret⟩ ?_)
  · intro s' φ' a' w' hk hr'
    exact hret s' φ' a' w' hk hr'
  · exact hr

end Go.Sx
