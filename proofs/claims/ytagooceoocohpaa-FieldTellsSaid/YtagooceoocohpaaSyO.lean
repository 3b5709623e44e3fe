/-
  What a call hands back is taken into the abstract state.
-/
import Derived.Test.YtagooceoocohpaaSyN
set_option linter.unusedVariables false
namespace Go.Sx

def addAll : Mem → List (Nat × AObj) → Option Mem
  | m, [] => some m
  | m, (i, o) :: r => if m.used i = false then addAll (m.add i o) r else none

theorem addAll_append : ∀ {m m' : Mem} {a b : List (Nat × AObj)}, addAll m (a ++ b) = some m' → ∃ m1, addAll m a = some m1 ∧ addAll m1 b = some m'
  | m, m', [], b, h => ⟨m, rfl, h⟩
  | m, m', (i, o) :: a, b, h => by
    simp only [List.cons_append, addAll] at h ⊢
    split at h
    · next hi => obtain ⟨m1, h1, h2⟩ := addAll_append h; exact ⟨m1, by rw [if_pos hi]; exact h1, h2⟩
    · cases h

section
variable {P : Program} {φ : Nat → Place} {s : St} {w0 : World} {F : Fp} {a : Act} {w w' : World} {N : Nat}

theorem Rel.grow (h : Rel w0 F φ s a w) (hold : Old (fun _ => False) w w') : Rel w0 F φ s a w' where
  defers := h.defers
  size := h.size
  fr := h.fr
  frids := h.frids
  objids := h.objids
  usedo := h.usedo
  mem i o hi := (h.mem i o hi).keep (fun _ _ => KeepI.refl) rfl (fun b o' _ ⟨x, hx⟩ => hold.block b (by
    rcases Nat.lt_or_ge b w.heap.size with h' | h'
    · exact h'
    · simp [Array.getElem?_eq_none h'] at hx) (fun hf => hf))
  inj := h.inj
  ro := h.ro
  fb := h.fb
  old := h.old.trans ⟨hold.os, hold.tape, hold.output, hold.size, fun k hk _ => hold.block k hk (fun hf => hf)⟩
  pinned := h.pinned

/-- The blocks from N on that may be written are among these. -/
def Inv (N : Nat) (φ : Nat → Place) (m : Mem) (seen : List Nat) : Prop := ∀ j b, ownBlock φ m.objs j b → b < N ∨ b ∈ seen

/-- What was told is told still. -/
def Ext (φ : Nat → Place) (m : Mem) (φ' : Nat → Place) (m' : Mem) : Prop := ∀ i, m.used i = true → m'.used i = true ∧ KeepI φ m.objs φ' m'.objs i

theorem Ext.refl (φ m) : Ext φ m φ m := fun i hi => ⟨hi, KeepI.refl⟩

theorem KeepI.trans {φ1 m1 φ2 m2 φ3 m3 i} (h : KeepI φ1 m1 φ2 m2 i) (k : KeepI φ2 m2 φ3 m3 i) : KeepI φ1 m1 φ3 m3 i :=
  ⟨k.1.trans h.1, fun T xs o hm => by
    obtain ⟨T', ys, o', h1, h2⟩ := k.2 T xs o hm
    obtain ⟨T2, zs, o2, h3, h4⟩ := h.2 T' ys o' h1
    exact ⟨T2, zs, o2, h3, h4.trans h2⟩⟩

theorem Ext.trans {φ1 m1 φ2 m2 φ3 m3} (h : Ext φ1 m1 φ2 m2) (k : Ext φ2 m2 φ3 m3) : Ext φ1 m1 φ3 m3 := fun i hi =>
  ⟨(k i (h i hi).1).1, (h i hi).2.trans (k i (h i hi).1).2⟩

theorem take_list {T : Ty} {xs : List T.den} {aa : Option Addr} {c k : Nat} {seen seen' : List Nat} (h : Rel w0 F φ s a w) (hN : w0.heap.size ≤ N) (hinv : Inv N φ s.mem seen) (hk : s.mem.used k = false) (hl : ListNew N w T xs aa c seen seen') :
    ∃ φ', Rel w0 F φ' { s with mem := s.mem.add k (.list T xs true) } a w ∧ Inv N φ' (s.mem.add k (.list T xs true)) seen' ∧ (Ck.sl k).R φ' (s.mem.add k (.list T xs true)).objs [.slice aa xs.length c] ∧ Ext φ s.mem φ' (s.mem.add k (.list T xs true)) := by
  have hext : ∀ p, Ext φ s.mem (updP φ k p) (s.mem.add k (.list T xs true)) := fun p i hi => by
    have hne : i ≠ k := fun e => by subst e; rw [hk] at hi; cases hi
    exact ⟨by simp [Mem.add, hne, hi], by simp [updP, hne], fun T' ys o hm => ⟨T', ys, o, by simpa [Mem.add, hne] using hm, rfl⟩⟩
  have hown : ∀ p j b, j ≠ k → ownBlock (updP φ k p) (s.mem.add k (.list T xs true)).objs j b → ownBlock φ s.mem.objs j b := fun p j b hj hb => by
    simpa [ownBlock, updP, Mem.add, hj] using hb
  rcases hl with ⟨rfl, rfl, rfl⟩ | ⟨b, o, arr, E, lo, hi, pre, post, rfl, q1, q2, q3, q4, q5, q6, q7, q8, rfl⟩
  · refine ⟨updP φ k ⟨aa, 0⟩, h.new hk (Old.refl _ w) (.inl ⟨rfl, by simp [updP]⟩) (by simp [AObj.ids]) (fun b' o' _ hh => ?_) (fun T' xs' e' => by cases e'), fun j b hb => ?_, by simp [Ck.R, Mem.add, updP], hext _⟩
    · rcases hh with hh | ⟨cs, hh⟩ | ⟨_, _, _, hh⟩
      · exact absurd rfl hh
      · cases hh
      · cases hh
    · by_cases e : j = k
      · subst e
        rcases hb with ⟨cs, h1, h2⟩ | ⟨T', xs', oo, h1, h2, h3⟩ | ⟨_, _, _, h1, _⟩
        · simp [Mem.add] at h1
        · simp [updP] at h3
        · simp [Mem.add] at h1
      · exact hinv j b (hown _ j b e hb)
  · have hnone : ∀ j, ¬ ownBlock φ s.mem.objs j b := fun j hj => by
      rcases hinv j b hj with hh | hh
      · omega
      · exact q8 hh
    refine ⟨updP φ k ⟨some ⟨b, o, none⟩, c⟩, h.adopt (.inr rfl) hk (But.refl b w) (.inl (by omega)) hnone (.inr ⟨b, o, arr, E, lo, hi, pre, post, by simp [updP], q1, q2, q3, by simpa [updP] using q4, by simpa [updP] using q5, fun _ => ⟨q6, .inl (by omega)⟩⟩) (by simp [AObj.ids]) (fun b' o' hb' _ => by simp at hb'; exact hb'.1.symm) (fun T' xs' e' => by cases e'), fun j b' hb => ?_, by simp [Ck.R, Mem.add, updP], hext _⟩
    by_cases e : j = k
    · subst e
      right
      rcases hb with ⟨cs, h1, h2⟩ | ⟨T', xs', oo, h1, h2, h3⟩ | ⟨_, _, _, h1, _⟩
      · simp [Mem.add] at h1
      · simp [updP] at h2; simp [h2.1]
      · simp [Mem.add] at h1
    · rcases hinv j b' (hown _ j b' e hb) with hh | hh
      · exact .inl hh
      · exact .inr (by simp [hh])

theorem enc_ids (T : Ty) (x : T.den) : Cks.ids (T.enc x) = [] := by
  induction T with
  | pair p q ih1 ih2 => simp [Ty.enc, Cks.ids_append, ih1, ih2]
  | _ => rfl

/-- The result of taking results in. -/
def Taken (N : Nat) (w0 : World) (F : Fp) (φ : Nat → Place) (s : St) (m' : Mem) (a : Act) (w : World) (cs : List Ck) (l : List Value) (seen' : List Nat) : Prop :=
  ∃ φ', Rel w0 F φ' { s with mem := m' } a w ∧ Inv N φ' m' seen' ∧ FlatR φ' m'.objs cs l ∧ (∀ i ∈ Cks.ids cs, m'.used i = true) ∧ Ext φ s.mem φ' m'

theorem take_D {d : DT} {x : d.den} {l : List Value} {k : Nat} {seen seen' : List Nat} {m' : Mem} (h : Rel w0 F φ s a w) (hN : w0.heap.size ≤ N) (hinv : Inv N φ s.mem seen) (hn : NewD N w d x l seen seen') (hadd : addAll s.mem (encDT k d x).2.1 = some m') :
    Taken N w0 F φ s m' a w (encDT k d x).1 l seen' := by
  cases d with
  | ty T =>
    obtain ⟨rfl, rfl⟩ := hn
    simp only [encDT, addAll, Option.some.injEq] at hadd
    subst hadd
    exact ⟨φ, h, hinv, FlatR.enc T x, fun i hi => absurd ((enc_ids T x) ▸ (show i ∈ Cks.ids (T.enc x) from hi)) (by simp), Ext.refl _ _⟩
  | list T =>
    obtain ⟨aa, c, rfl, hl⟩ := hn
    simp only [encDT, addAll] at hadd
    split at hadd
    · next hk =>
      simp only [Option.some.injEq] at hadd
      subst hadd
      obtain ⟨φ', h1, h2, h3, h4⟩ := take_list h hN hinv hk hl
      exact ⟨φ', h1, h2, FlatR.of_single h3, by simp [encDT, Cks.ids, Ck.ids, Mem.add], h4⟩
    · cases hadd

theorem take_Ds (hN : w0.heap.size ≤ N) : ∀ (ds : List DT) (x : Dens ds) (l : List Value) (k : Nat) (seen seen' : List Nat) (m' : Mem) (φ : Nat → Place) (s : St), Rel w0 F φ s a w → Inv N φ s.mem seen → NewDs N w ds x l seen seen' →
    addAll s.mem (encDTs k ds x).2.1 = some m' → Taken N w0 F φ s m' a w (encDTs k ds x).1 l seen'
  | [], x, l, k, seen, seen', m', φ, s, h, hinv, hn, hadd => by
    obtain ⟨rfl, rfl⟩ := hn
    simp only [encDTs, addAll, Option.some.injEq] at hadd
    subst hadd
    exact ⟨φ, h, hinv, rfl, by simp [encDTs, Cks.ids], Ext.refl _ _⟩
  | [d], x, l, k, seen, seen', m', φ, s, h, hinv, hn, hadd => take_D (d := d) (x := x) h hN hinv hn hadd
  | d :: e :: r, x, l, k, seen, seen', m', φ, s, h, hinv, hn, hadd => by
    obtain ⟨l1, l2, t, rfl, hn1, hn2⟩ := hn
    obtain ⟨m1, ha1, ha2⟩ := addAll_append (show addAll s.mem ((encDT k d x.1).2.1 ++ (encDTs (encDT k d x.1).2.2 (e :: r) x.2).2.1) = some m' from hadd)
    obtain ⟨φ1, r1, i1, f1, u1, x1⟩ := take_D h hN hinv hn1 ha1
    obtain ⟨φ2, r2, i2, f2, u2, x2⟩ := take_Ds hN (e :: r) x.2 l2 (encDT k d x.1).2.2 t seen' m' φ1 { s with mem := m1 } r1 i1 hn2 ha2
    refine ⟨φ2, r2, i2, ?_, fun i hi => ?_, x1.trans x2⟩
    · exact FlatR.append (f1.keep fun i hi => (x2 i (u1 i hi)).2) f2
    · have hi' : i ∈ Cks.ids ((encDT k d x.1).1 ++ (encDTs (encDT k d x.1).2.2 (e :: r) x.2).1) := hi
      rw [Cks.ids_append, List.mem_append] at hi'
      rcases hi' with hi | hi
      · exact (x2 i (u1 i hi)).1
      · exact u2 i hi

theorem take_P {p : PT} {x : Dens p.ts} {v : Value} {k : Nat} {seen seen' : List Nat} {m' : Mem} (h : Rel w0 F φ s a w) (hN : w0.heap.size ≤ N) (hinv : Inv N φ s.mem seen) (hn : NewP N w p x v seen seen') (hadd : addAll s.mem (encDTs k p.ts x).2.1 = some m') :
    ∃ φ', Rel w0 F φ' { s with mem := m' } a w ∧ Inv N φ' m' seen' ∧ BR φ' m'.objs (p.agg, (encDTs k p.ts x).1) v ∧ (∀ i ∈ Cks.ids (encDTs k p.ts x).1, m'.used i = true) ∧ Ext φ s.mem φ' m' := by
  unfold NewP at hn
  cases ha : p.agg with
  | true =>
    rw [if_pos ha] at hn
    obtain ⟨l, rfl, hn⟩ := hn
    obtain ⟨φ1, r1, i1, f1, u1, x1⟩ := take_Ds hN p.ts x l k seen seen' m' φ s h hinv hn hadd
    exact ⟨φ1, r1, i1, ⟨l, rfl, f1⟩, u1, x1⟩
  | false =>
    rw [if_neg (by simp [ha])] at hn
    obtain ⟨φ1, r1, i1, f1, u1, x1⟩ := take_Ds hN p.ts x [v] k seen seen' m' φ s h hinv hn hadd
    exact ⟨φ1, r1, i1, f1, u1, x1⟩

def idsOf (l : List (Bool × List Ck)) : List Nat := l.flatMap fun p => Cks.ids p.2

theorem BR.keep {φ m φ' m'} {p : Bool × List Ck} {v : Value} (hk : ∀ i ∈ Cks.ids p.2, KeepI φ m φ' m' i) (h : BR φ m p v) : BR φ' m' p v := by
  obtain ⟨b, cs⟩ := p
  cases b with
  | true => obtain ⟨l, e, h⟩ := h; exact ⟨l, e, FlatR.keep hk h⟩
  | false => exact FlatR.keep hk h

theorem take_Ps (hN : w0.heap.size ≤ N) : ∀ (ps : List PT) (x : PDen ps) (vs : List Value) (k : Nat) (seen seen' : List Nat) (m' : Mem) (φ : Nat → Place) (s : St), Rel w0 F φ s a w → Inv N φ s.mem seen → NewPs N w ps x vs seen seen' →
    addAll s.mem (encPTs k ps x).2.1 = some m' →
    ∃ φ', Rel w0 F φ' { s with mem := m' } a w ∧ All2 (BR φ' m'.objs) (encPTs k ps x).1 vs ∧ (∀ i ∈ idsOf (encPTs k ps x).1, m'.used i = true) ∧ Ext φ s.mem φ' m'
  | [], x, vs, k, seen, seen', m', φ, s, h, hinv, hn, hadd => by
    obtain ⟨rfl, rfl⟩ := hn
    simp only [encPTs, addAll, Option.some.injEq] at hadd
    subst hadd
    exact ⟨φ, h, trivial, by simp [encPTs, idsOf], Ext.refl _ _⟩
  | [p], x, vs, k, seen, seen', m', φ, s, h, hinv, hn, hadd => by
    obtain ⟨v, rfl, hn⟩ := hn
    obtain ⟨φ1, r1, i1, f1, u1, x1⟩ := take_P (p := p) (x := x) h hN hinv hn hadd
    exact ⟨φ1, r1, ⟨f1, trivial⟩, fun i hi => u1 i (by simpa [encPTs, idsOf] using hi), x1⟩
  | p :: q :: r, x, vs, k, seen, seen', m', φ, s, h, hinv, hn, hadd => by
    obtain ⟨v, rest, t, rfl, hn1, hn2⟩ := hn
    obtain ⟨m1, ha1, ha2⟩ := addAll_append (show addAll s.mem ((encDTs k p.ts x.1).2.1 ++ (encPTs (encDTs k p.ts x.1).2.2 (q :: r) x.2).2.1) = some m' from hadd)
    obtain ⟨φ1, r1, i1, f1, u1, x1⟩ := take_P (p := p) (x := x.1) h hN hinv hn1 ha1
    obtain ⟨φ2, r2, f2, u2, x2⟩ := take_Ps hN (q :: r) x.2 rest (encDTs k p.ts x.1).2.2 t seen' m' φ1 { s with mem := m1 } r1 i1 hn2 ha2
    refine ⟨φ2, r2, ⟨f1.keep fun i hi => (x2 i (u1 i hi)).2, f2⟩, fun i hi => ?_, x1.trans x2⟩
    have hi' : i ∈ Cks.ids (encDTs k p.ts x.1).1 ++ idsOf (encPTs (encDTs k p.ts x.1).2.2 (q :: r) x.2).1 := by
      simpa [idsOf, encPTs] using hi
    rcases List.mem_append.1 hi' with hi | hi
    · exact (x2 i (u1 i hi)).1
    · exact u2 i hi

theorem resSV_R {φ m} {l : List (Bool × List Ck)} {vs : List Value} (h : All2 (BR φ m) l vs) : (resSV l).R φ m (resVal vs) := by
  have tup : ∀ {l : List (Bool × List Ck)} {vs : List Value}, All2 (BR φ m) l vs → (SV.tup l).R φ m (.tuple vs.toArray) := fun h => ⟨_, rfl, h⟩
  cases l with
  | nil => cases vs with
    | nil => exact tup h
    | cons => exact h.elim
  | cons p l =>
    cases vs with
    | nil => exact h.elim
    | cons v vs =>
      cases l with
      | cons q l =>
        cases vs with
        | nil => exact h.2.elim
        | cons u vs =>
          have : resSV (p :: q :: l) = .tup (p :: q :: l) := by
            obtain ⟨b, cs⟩ := p
            cases b with
            | true => rfl
            | false =>
              cases cs with
              | nil => rfl
              | cons c cs => cases cs <;> rfl
          rw [this]
          exact tup h
      | nil =>
        cases vs with
        | cons => exact h.2.elim
        | nil =>
          obtain ⟨b, cs⟩ := p
          cases b with
          | true => exact h.1
          | false =>
            have hf : FlatR φ m cs [v] := h.1
            cases cs with
            | nil => trivial
            | cons c cs =>
              cases cs with
              | nil => exact FlatR.single hf
              | cons d cs => trivial

end

end Go.Sx
