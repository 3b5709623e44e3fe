/-
  Guards; a region in its text order; a region in any order.
-/
import Derived.Test.YtagooceoocohpaaSyQ
import Derived.Orders
set_option linter.unusedVariables false
namespace Go.Sx

def gstep (E : Env) (ops : Array Oper) (s : St) (o : Oper) : Option St :=
  match o.guard with
  | none => step E s o
  | some (g, want) => match (ops[g]?).bind (·.dst) with
    | some t => (match s.fr t with
      | .sc (.bool b) => if b = want then step E s o else putD s o.dst (.tup [])
      | .tup [] => putD s o.dst (.tup [])
      | _ => none)
    | none => none

/-- One operation comes up. -/
def OpAfter (P : Program) (w0 : World) (F : Fp) (ops : Array Oper) (s' : St) (a : Act) (w : World) (o : Oper) : Prop :=
  ∀ (K : Act → World → Prop) (Q : Exit → Act → World → Prop), (∀ φ' a' w', Rel w0 F φ' s' a' w' → K a' w') →
    if Region.wanted o (yielded ops a.tmps) = true then o.wp P a w K Q else K (a.put o.dst undef) w

section
variable {E : Env} {φ : Nat → Place} {s s' : St} {w0 : World} {F : Fp} {a : Act} {w : World} {ops : Array Oper}

theorem undef_R {φ m} : (SV.tup []).R φ m undef := ⟨[], rfl, trivial⟩

theorem Rel.yielded_some (h : Rel w0 F φ s a w) {g t : Nat} {b : Bool} (hg : (ops[g]?).bind (·.dst) = some t) (hb : s.fr t = .sc (.bool b)) : yielded ops a.tmps g = some b := by
  unfold yielded
  rw [hg]
  have := h.fr t
  rw [hb] at this
  simp only [SV.R, Ck.R] at this
  have hv : a.tmps.getD t undef = .bool b := by simpa using this
  have ht : a.tmps[t]? = some (.bool b) := by
    rw [Array.getD_eq_getD_getElem?] at hv
    cases hx : a.tmps[t]? with
    | none => rw [hx] at hv; simp [undef] at hv
    | some u => rw [hx] at hv; simpa using hv
  simp [ht]

theorem Rel.yielded_none (h : Rel w0 F φ s a w) {g t : Nat} (hg : (ops[g]?).bind (·.dst) = some t) (hb : s.fr t = .tup []) : yielded ops a.tmps g = none := by
  unfold yielded
  rw [hg]
  have := h.fr t
  rw [hb] at this
  obtain ⟨l, hl, hl2⟩ := this
  cases l with
  | cons _ _ => exact hl2.elim
  | nil =>
    simp only [Option.bind_some]
    cases hx : a.tmps[t]? with
    | none => rfl
    | some u =>
      rw [Array.getD_eq_getD_getElem?, hx] at hl
      simp at hl
      subst hl
      rfl

theorem gstep_sound (hE : E.ok) {o : Oper} (h : Rel w0 F φ s a w) (hs : gstep E ops s o = some s') : OpAfter E.P w0 F ops s' a w o := by
  have hskip : ∀ {s'}, putD s o.dst (.tup []) = some s' → Rel w0 F φ s' (a.put o.dst undef) w := fun hs => h.putD undef_R (by simp [SV.ids]) hs
  intro K Q hK
  unfold gstep at hs
  split at hs
  · next hg =>
    have : Region.wanted o (yielded ops a.tmps) = true := by simp [Region.wanted, hg]
    rw [if_pos this]
    exact step_sound hE h hs K Q hK
  · next g want hg =>
    split at hs
    · next t ht =>
      split at hs
      · next b hb =>
        have hy := h.yielded_some ht hb
        split at hs
        · next e =>
          have : Region.wanted o (yielded ops a.tmps) = true := by simp [Region.wanted, hg, hy, e]
          rw [if_pos this]
          exact step_sound hE h hs K Q hK
        · next e =>
          have : ¬ Region.wanted o (yielded ops a.tmps) = true := by simp [Region.wanted, hg, hy, e]
          rw [if_neg this]
          exact hK _ _ _ (hskip hs)
      · next hb =>
        have hy := h.yielded_none ht hb
        have : ¬ Region.wanted o (yielded ops a.tmps) = true := by simp [Region.wanted, hg, hy]
        rw [if_neg this]
        exact hK _ _ _ (hskip hs)
      · cases hs
    · cases hs

/-! ### In text order -/

def runL (E : Env) (ops : Array Oper) : List Oper → St → Option St
  | [], s => some s
  | o :: r, s => (gstep E ops s o).bind (runL E ops r)

theorem runL_sound (hE : E.ok) {Q : Exit → Act → World → Prop} : ∀ (l : List Oper) {φ : Nat → Place} {s s' : St} {a : Act} {w : World}, Rel w0 F φ s a w → runL E ops l s = some s' →
    (∀ φ' a' w', Rel w0 F φ' s' a' w' → Q .normal a' w') → wpList E.P ops Q l a w
  | [], φ, s, s', a, w, h, hs, hQ => by simp only [runL, Option.some.injEq] at hs; subst hs; exact hQ _ _ _ h
  | o :: r, φ, s, s', a, w, h, hs, hQ => by
    simp only [runL] at hs
    cases hg : gstep E ops s o with
    | none => rw [hg] at hs; cases hs
    | some s1 =>
      rw [hg] at hs
      exact wpList_step fun K hK => gstep_sound hE h hg K Q fun φ' a' w' h' => hK _ _ (runL_sound hE r h' hs hQ)

/-! ### Many new objects at once -/

def look : List (Nat × AObj) → Nat → Option AObj
  | [], _ => none
  | (i, o) :: r, j => if j = i then some o else look r j

theorem look_none {l : List (Nat × AObj)} {j : Nat} : look l j = none ↔ j ∉ l.map (·.1) := by
  induction l with
  | nil => simp [look]
  | cons p r ih =>
    obtain ⟨i, o⟩ := p
    simp only [look]
    split
    · next e => simp [e]
    · next e => simp [ih, e]

def addF (m : Mem) (l : List (Nat × AObj)) : Mem :=
  { objs := fun j => match look l j with | some o => some o | none => m.objs j, used := fun j => m.used j || (l.map (·.1)).contains j, tmps := m.tmps }

theorem Mem.ext' {m m' : Mem} (h1 : ∀ i, m.objs i = m'.objs i) (h2 : ∀ i, m.used i = m'.used i) (h3 : m.tmps = m'.tmps) : m = m' := by
  cases m; cases m'; simp only [Mem.mk.injEq]; exact ⟨funext h1, funext h2, h3⟩

theorem addAll_iff {m m' : Mem} {l : List (Nat × AObj)} : addAll m l = some m' ↔ (∀ i ∈ l.map (·.1), m.used i = false) ∧ (l.map (·.1)).Nodup ∧ m' = addF m l := by
  induction l generalizing m with
  | nil =>
    simp only [addAll, List.map_nil, List.not_mem_nil, false_implies, implies_true, List.nodup_nil, true_and, Option.some.injEq]
    have : addF m [] = m := Mem.ext' (fun i => rfl) (fun i => by simp [addF]) rfl
    rw [this]; exact eq_comm
  | cons p r ih =>
    obtain ⟨i, o⟩ := p
    simp only [addAll, List.map_cons, List.mem_cons, forall_eq_or_imp, List.nodup_cons]
    by_cases hi : m.used i = false
    · rw [if_pos hi, ih]
      have hadd : addF (m.add i o) r = addF m ((i, o) :: r) ∨ i ∈ r.map (·.1) := by
        by_cases hm : i ∈ r.map (·.1)
        · exact .inr hm
        · refine .inl (Mem.ext' (fun j => ?_) (fun j => ?_) rfl)
          · simp only [addF, Mem.add, look]
            by_cases e : j = i
            · subst e; rw [look_none.2 hm]; simp
            · simp [e]
          · simp only [addF, Mem.add, List.map_cons, List.contains_cons]
            by_cases e : j = i
            · subst e; simp
            · have e' : (j == i) = false := by simp [e]
              rw [if_neg e, e', Bool.false_or]
      constructor
      · rintro ⟨h1, h2, rfl⟩
        have hm : i ∉ r.map (·.1) := fun hm => by have := h1 i hm; simp [Mem.add] at this
        refine ⟨⟨hi, fun j hj => ?_⟩, ⟨hm, h2⟩, hadd.resolve_right hm⟩
        have := h1 j hj
        simp only [Mem.add] at this
        split at this
        · cases this
        · exact this
      · rintro ⟨⟨_, h1⟩, ⟨hm, h2⟩, rfl⟩
        refine ⟨fun j hj => ?_, h2, (hadd.resolve_right hm).symm⟩
        have : j ≠ i := fun e => hm (e ▸ hj)
        simp [Mem.add, this, h1 j hj]
    · rw [if_neg hi]
      simp [hi]

theorem addF_used {m : Mem} {l : List (Nat × AObj)} {i : Nat} : (addF m l).used i = true ↔ m.used i = true ∨ i ∈ l.map (·.1) := by
  simp [addF]

theorem addF_old {m : Mem} {l : List (Nat × AObj)} (h : ∀ i ∈ l.map (·.1), m.used i = false) {i : Nat} (hi : m.used i = true) : (addF m l).objs i = m.objs i := by
  have : look l i = none := look_none.2 fun hm => by rw [h i hm] at hi; cases hi
  simp [addF, this]

theorem addF_swap {m : Mem} {A B : List (Nat × AObj)} (hd : ∀ i ∈ A.map (·.1), i ∉ B.map (·.1)) : addF (addF m A) B = addF (addF m B) A := by
  refine Mem.ext' (fun i => ?_) (fun i => ?_) rfl
  · simp only [addF]
    cases ha : look A i with
    | none => cases look B i <;> rfl
    | some o =>
      have : i ∈ A.map (·.1) := Classical.byContradiction fun h => by rw [look_none.2 h] at ha; cases ha
      rw [look_none.2 (hd i this)]
  · simp only [addF]
    cases m.used i <;> cases (A.map (·.1)).contains i <;> cases (B.map (·.1)).contains i <;> rfl

theorem addAll_swap {m m1 m2 : Mem} {A B : List (Nat × AObj)} (h1 : addAll m A = some m1) (h2 : addAll m1 B = some m2) :
    ∃ m1', addAll m B = some m1' ∧ addAll m1' A = some m2 := by
  obtain ⟨a1, a2, rfl⟩ := addAll_iff.1 h1
  obtain ⟨b1, b2, rfl⟩ := addAll_iff.1 h2
  have hb : ∀ i ∈ B.map (·.1), m.used i = false ∧ i ∉ A.map (·.1) := fun i hi => by
    have := b1 i hi
    constructor
    · cases h : m.used i with
      | false => rfl
      | true => rw [addF_used.2 (.inl h)] at this; cases this
    · intro h; rw [addF_used.2 (.inr h)] at this; cases this
  refine ⟨addF m B, addAll_iff.2 ⟨fun i hi => (hb i hi).1, b2, rfl⟩, addAll_iff.2 ⟨fun i hi => ?_, a2, ?_⟩⟩
  · cases h : (addF m B).used i with
    | false => rfl
    | true =>
      rcases addF_used.1 h with h | h
      · rw [a1 i hi] at h; cases h
      · exact absurd hi (hb i h).2
  · exact addF_swap fun i hi hi' => (hb i hi').2 hi

/-! ### Sets -/

def lookS : List (Nat × Option AObj) → Nat → Option (Option AObj)
  | [], _ => none
  | (i, o) :: r, j => if j = i then some o else lookS r j

theorem lookS_none {l : List (Nat × Option AObj)} {j : Nat} (h : j ∉ l.map (·.1)) : lookS l j = none := by
  induction l with
  | nil => rfl
  | cons p r ih =>
    obtain ⟨i, o⟩ := p
    simp only [List.map_cons, List.mem_cons, not_or] at h
    simp only [lookS, h.1, if_false]
    exact ih h.2

def setF (m : Mem) (l : List (Nat × Option AObj)) : Mem :=
  { m with objs := fun j => match lookS l j with | some x => x | none => m.objs j }

theorem setF_nil {m : Mem} : setF m [] = m := rfl

theorem setF_old {m : Mem} {l : List (Nat × Option AObj)} {i : Nat} (h : i ∉ l.map (·.1)) : (setF m l).objs i = m.objs i := by
  simp only [setF, lookS_none h]

/-! ### An operation: what it comes to, then its entry -/

/-- Its value; the objects that are set or go; the new ones. -/
abbrev Dl := SV × List (Nat × Option AObj) × List (Nat × AObj)

def delS : Option Nat → List (Nat × Option AObj)
  | some i => [(i, none)]
  | none => []

def prnS (E : Env) (s : St) (o : Oper) : Option Dl := match prn E s o with
  | some (v, adds) => if inAll v.ids (seeIds E s o ++ adds.map (·.1)) = true ∧ inAll (adds.flatMap fun p => p.2.ids) (seeIds E s o) = true then some (v, [], adds) else none
  | none => none

def effStep (E : Env) (s : St) (o : Oper) : Option Dl :=
  match clOf E o.op with
  | .store => (match storeOp E.P s.opv s.mem.objs o.op with
    | some (true, i, ob) => if inAll ob.ids (seeIds E s o) = true then some (.tup [], [(i, some ob)], []) else none
    | _ => none)
  | .append => (match appendOp E.P s.opv s.mem.objs o.op with
    | some (true, i, ob) => some (.sc (.sl (nid o)), delS i, [(nid o, ob)])
    | _ => none)
  | .copy => (match copyOp E.P s.opv s.mem.objs o.op with
    | some (true, r, i, ob) => if inAll ob.ids (seeIds E s o) = true then some (.sc (.int .i64 r), [(i, some ob)], []) else none
    | _ => none)
  | .other => none
  | _ => prnS E s o

def eff (E : Env) (ops : Array Oper) (s : St) (o : Oper) : Option Dl :=
  match o.guard with
  | none => effStep E s o
  | some (g, want) => match (ops[g]?).bind (·.dst) with
    | some t => (match s.fr t with
      | .sc (.bool b) => if b = want then effStep E s o else some (.tup [], [], [])
      | .tup [] => some (.tup [], [], [])
      | _ => none)
    | none => none

def enter (s : St) (o : Oper) (p : Dl) : Option St :=
  match addAll (setF s.mem p.2.1) p.2.2 with
  | some m => putD { s with mem := m } o.dst p.1
  | none => none

structure Tch where
  W : List Nat
  R : List Nat
  free : Bool

/-- What an operation may write, what it looks at; whether it may change places at all. -/
def tch (E : Env) (s : St) (o : Oper) : Tch := match clOf E o.op with
  | .pure => ⟨[], [], true⟩
  | .new => ⟨[], [], true⟩
  | .read => ⟨[], opIds s.opv o, true⟩
  | .call _ => ⟨[], opIds s.opv o, true⟩
  | .store => ⟨wrIds s.opv o.op, [], s.mem.tmps.isEmpty⟩
  | .append => ⟨wrIds s.opv o.op, opIds s.opv o, s.mem.tmps.isEmpty⟩
  | .copy => ⟨wrIds s.opv o.op, opIds s.opv o, s.mem.tmps.isEmpty⟩
  | .other => ⟨[], [], false⟩

theorem setF_one {m : Mem} {i : Nat} {ob : AObj} : setF m [(i, some ob)] = m.set i ob := by
  refine Mem.ext' (fun j => ?_) (fun j => rfl) rfl
  simp only [setF, lookS, Mem.set]
  by_cases e : j = i <;> simp [e]

theorem setF_del {m : Mem} {i : Option Nat} : setF m (delS i) = m.del i := by
  cases i with
  | none => rfl
  | some i =>
    refine Mem.ext' (fun j => ?_) (fun j => rfl) rfl
    simp only [setF, delS, lookS, Mem.del]
    by_cases e : j = i <;> simp [e]

theorem step_P {o : Oper} (hfree : (tch E s o).free = true) : step E s o = (effStep E s o).bind (enter s o) := by
  have hP : (match prn E s o with
    | some (v, adds) => fin E s o v adds
    | none => none) = (prnS E s o).bind (enter s o) := by
    unfold prnS
    cases prn E s o with
    | none => rfl
    | some p =>
      obtain ⟨v, adds⟩ := p
      simp only
      by_cases hc : inAll v.ids (seeIds E s o ++ adds.map (·.1)) = true ∧ inAll (adds.flatMap fun p => p.2.ids) (seeIds E s o) = true
      · rw [if_pos hc, Option.bind_some]
        unfold fin enter
        simp only [setF_nil]
        cases hm : addAll s.mem adds with
        | none => rfl
        | some m =>
          simp only
          rw [if_pos hc]
          unfold putD
          cases o.dst <;> rfl
      · rw [if_neg hc, Option.bind_none]
        unfold fin
        cases hm : addAll s.mem adds with
        | none => rfl
        | some m =>
          simp only
          rw [if_neg hc]
  unfold step effStep
  cases hc : clOf E o.op with
  | store =>
    have hT : s.mem.tmps = [] := by simpa [tch, hc] using hfree
    simp only [St.clearT_nil hT, stepW, hc]
    rcases storeOp E.P s.opv s.mem.objs o.op with _ | ⟨b, i, ob⟩
    · rfl
    · cases b
      · rfl
      · simp only
        split
        · simp only [Option.bind_some, enter, addAll, setF_one]
        · rfl
  | append =>
    have hT : s.mem.tmps = [] := by simpa [tch, hc] using hfree
    simp only [St.clearT_nil hT, stepW, hc]
    rcases appendOp E.P s.opv s.mem.objs o.op with _ | ⟨b, i, ob⟩
    · rfl
    · cases b
      · rfl
      · simp only
        have hu : (s.mem.del i).used (nid o) = s.mem.used (nid o) := by cases i <;> rfl
        by_cases hn : s.mem.used (nid o) = false
        · rw [if_pos hn]
          simp only [Option.bind_some, enter]
          have : addAll (setF s.mem (delS i)) [(nid o, ob)] = some ((s.mem.del i).add (nid o) ob) := by
            rw [setF_del]
            simp only [addAll]
            rw [if_pos (hu.trans hn)]
          rw [this]
        · rw [if_neg fun h => hn h]
          simp only [Option.bind_some, enter]
          have : addAll (setF s.mem (delS i)) [(nid o, ob)] = none := by
            rw [setF_del]
            simp only [addAll]
            rw [if_neg fun h => hn (hu.symm.trans h)]
          rw [this]
  | copy =>
    have hT : s.mem.tmps = [] := by simpa [tch, hc] using hfree
    simp only [St.clearT_nil hT, stepW, hc]
    rcases copyOp E.P s.opv s.mem.objs o.op with _ | ⟨b, r, i, ob⟩
    · rfl
    · cases b
      · rfl
      · simp only
        split
        · simp only [Option.bind_some, enter, addAll, setF_one]
        · rfl
  | other => rfl
  | pure => exact hP
  | read => exact hP
  | new => exact hP
  | call C => exact hP

theorem gstep_P {o : Oper} (hfree : (tch E s o).free = true) : gstep E ops s o = (eff E ops s o).bind (enter s o) := by
  have hskip : putD s o.dst (.tup []) = enter s o (.tup [], [], []) := rfl
  unfold gstep eff
  split
  · exact step_P hfree
  · split
    · split
      · split
        · exact step_P hfree
        · exact hskip
      · exact hskip
      · rfl
    · rfl

/-! ### Apart -/

def inter : List Nat → List Nat → Bool
  | [], _ => false
  | i :: r, l => match memB l i with | true => true | false => inter r l

theorem inter_false : ∀ {k l : List Nat}, inter k l = false → ∀ i ∈ k, i ∉ l
  | [], l, _, i, hi => by cases hi
  | j :: r, l, h, i, hi => by
    unfold inter at h
    split at h
    · cases h
    · next hj =>
      rcases List.mem_cons.1 hi with rfl | hi
      · intro hm; rw [memB_iff.2 hm] at hj; cases hj
      · exact inter_false h i hi

def Tch.apart (x y : Tch) : Bool := (x.free && y.free) && ((!inter x.W y.W) && ((!inter x.W y.R) && (!inter y.W x.R)))

theorem tch_ids {o : Oper} : (∀ i ∈ (tch E s o).W, i ∈ opIds s.opv o) ∧ ∀ i ∈ (tch E s o).R, i ∈ opIds s.opv o := by
  unfold tch
  split <;> refine ⟨fun i hi => ?_, fun i hi => ?_⟩ <;> first | (cases hi; done) | exact wrIds_op i hi | exact hi

/-- The objects that are set are among those told. -/
theorem eff_sets {o : Oper} {v : SV} {sets : List (Nat × Option AObj)} {adds : List (Nat × AObj)} (h : eff E ops s o = some (v, sets, adds)) : ∀ i ∈ sets.map (·.1), i ∈ (tch E s o).W := by
  have hstep : ∀ {v sets adds}, effStep E s o = some (v, sets, adds) → ∀ i ∈ sets.map (·.1), i ∈ (tch E s o).W := by
    intro v sets adds h i hi
    unfold effStep at h
    unfold tch
    split at h
    · next hc =>
      simp only [hc]
      split at h
      · next ho =>
        split at h
        · cases h; simp at hi; subst hi; exact storeOp_id ho
        · cases h
      · cases h
    · next hc =>
      simp only [hc]
      split at h
      · next j ob ho =>
        cases h
        cases j with
        | none => cases hi
        | some j => simp [delS] at hi; subst hi; exact appendOp_id ho
      · cases h
    · next hc =>
      simp only [hc]
      split at h
      · next ho =>
        split at h
        · cases h; simp at hi; subst hi; exact copyOp_id ho
        · cases h
      · cases h
    · cases h
    · unfold prnS at h
      split at h
      · split at h
        · cases h; cases hi
        · cases h
      · cases h
  unfold eff at h
  split at h
  · exact hstep h
  · split at h
    · split at h
      · split at h
        · exact hstep h
        · cases h; intro i hi; cases hi
      · cases h; intro i hi; cases hi
      · cases h
    · cases h

theorem opIds_used {o : Oper} (hw : Wf s) : ∀ i ∈ opIds s.opv o, s.mem.used i = true := fun i hi => by
  obtain ⟨x, _, hx⟩ := List.mem_flatMap.1 hi
  cases x with
  | tmp t => exact hw.fr t i hx
  | const v => rw [show s.opv (.const v) = constSV v from rfl, (constSV_R (φ := fun _ => ⟨none, 0⟩) (m := fun _ => none) v).2] at hx; cases hx
  | global g => simp [St.opv, SV.ids] at hx
  | func f => simp [St.opv, SV.ids, Ck.ids] at hx

theorem seeIds_used {o : Oper} (hw : Wf s) : ∀ i ∈ seeIds E s o, s.mem.used i = true := fun i hi => by
  rcases List.mem_append.1 (seeIds_view i hi) with hi | hi
  · exact opIds_used hw i hi
  · obtain ⟨j, hj, hij⟩ := List.mem_flatMap.1 hi
    cases hm : s.mem.objs j with
    | none => simp [hm] at hij
    | some ob => simp [hm] at hij; exact hw.ob j ob hm i hij

theorem eff_ids {o : Oper} (hw : Wf s) {v : SV} {sets : List (Nat × Option AObj)} {adds : List (Nat × AObj)} (h : eff E ops s o = some (v, sets, adds)) :
    (∀ i ∈ v.ids, s.mem.used i = true ∨ i ∈ adds.map (·.1)) ∧ (∀ p ∈ adds, ∀ i ∈ p.2.ids, s.mem.used i = true) ∧ (∀ p ∈ sets, ∀ ob, p.2 = some ob → ∀ i ∈ ob.ids, s.mem.used i = true) := by
  have hsee := seeIds_used (E := E) (o := o) hw
  have hstep : ∀ {v sets adds}, effStep E s o = some (v, sets, adds) → (∀ i ∈ v.ids, s.mem.used i = true ∨ i ∈ adds.map (·.1)) ∧ (∀ p ∈ adds, ∀ i ∈ p.2.ids, s.mem.used i = true) ∧ (∀ p ∈ sets, ∀ ob, p.2 = some ob → ∀ i ∈ ob.ids, s.mem.used i = true) := by
    intro v sets adds h
    unfold effStep at h
    split at h
    · split at h
      · split at h
        · next hc =>
          cases h
          refine ⟨by simp [SV.ids], by simp, fun p hp ob e i hi => ?_⟩
          simp at hp; subst hp; cases e
          exact hsee i (inAll_spec hc i hi)
        · cases h
      · cases h
    · split at h
      · next j ob ho =>
        cases h
        refine ⟨by simp [SV.ids, Ck.ids], fun p hp i hi => ?_, fun p hp ob e i hi => ?_⟩
        · simp at hp; subst hp; rw [appendOp_ids ho] at hi; cases hi
        · cases j with
          | none => cases hp
          | some j => simp [delS] at hp; subst hp; cases e
      · cases h
    · split at h
      · split at h
        · next hc =>
          cases h
          refine ⟨by simp [SV.ids, Ck.ids], by simp, fun p hp ob e i hi => ?_⟩
          simp at hp; subst hp; cases e
          exact hsee i (inAll_spec hc i hi)
        · cases h
      · cases h
    · cases h
    · unfold prnS at h
      split at h
      · split at h
        · next hc =>
          cases h
          refine ⟨fun i hi => ?_, fun p hp i hi => hsee i (inAll_spec hc.2 i (List.mem_flatMap.2 ⟨p, hp, hi⟩)), by simp⟩
          rcases List.mem_append.1 (inAll_spec hc.1 i hi) with h | h
          · exact .inl (hsee i h)
          · exact .inr h
        · cases h
      · cases h
  have hskip : some ((SV.tup [], [], []) : Dl) = some (v, sets, adds) → (∀ i ∈ v.ids, s.mem.used i = true ∨ i ∈ adds.map (·.1)) ∧ (∀ p ∈ adds, ∀ i ∈ p.2.ids, s.mem.used i = true) ∧ (∀ p ∈ sets, ∀ ob, p.2 = some ob → ∀ i ∈ ob.ids, s.mem.used i = true) := by
    intro h
    cases h
    exact ⟨by simp [SV.ids], by simp, by simp⟩
  unfold eff at h
  split at h
  · exact hstep h
  · split at h
    · split at h
      · split at h
        · exact hstep h
        · exact hskip h
      · exact hskip h
      · cases h
    · cases h

theorem enter_spec {o : Oper} {p : Dl} (h : enter s o p = some s') :
    ∃ m, addAll (setF s.mem p.2.1) p.2.2 = some m ∧ (∀ d, o.dst = some d → d < s.n) ∧ s' = { fr := fun t => if o.dst = some t then p.1 else s.fr t, n := s.n, mem := m } := by
  unfold enter at h
  split at h
  · next m hm =>
    refine ⟨m, hm, ?_⟩
    unfold putD at h
    split at h
    · next d hd =>
      split at h
      · next hlt =>
        simp only [Option.some.injEq] at h
        subst h
        refine ⟨fun e he => ?_, ?_⟩
        · rw [hd] at he; simp only [Option.some.injEq] at he; subst he; exact hlt
        · simp only [St.put, St.mk.injEq, and_true]
          funext t
          rw [hd]
          by_cases e : t = d
          · simp [e]
          · have : ¬ d = t := fun x => e x.symm
            simp [e, this]
      · cases h
    · next hd =>
      simp only [Option.some.injEq] at h
      subst h
      rw [hd]
      simp
  · cases h

theorem enter_mk {o : Oper} {p : Dl} {m : Mem} (hm : addAll (setF s.mem p.2.1) p.2.2 = some m) (hd : ∀ d, o.dst = some d → d < s.n) :
    enter s o p = some { fr := fun t => if o.dst = some t then p.1 else s.fr t, n := s.n, mem := m } := by
  unfold enter
  simp only [hm]
  unfold putD
  split
  · next d hd' =>
    rw [if_pos (hd d hd')]
    simp only [St.put, Option.some.injEq, St.mk.injEq, and_true]
    funext t
    rw [hd']
    by_cases e : t = d
    · simp [e]
    · have : ¬ d = t := fun x => e x.symm
      simp [e, this]
  · next hd' =>
    rw [hd']
    simp

theorem look_mem {adds : List (Nat × AObj)} {j : Nat} {ob : AObj} (hl : look adds j = some ob) : ∃ p ∈ adds, p.2 = ob := by
  induction adds with
  | nil => cases hl
  | cons q r ih =>
    obtain ⟨k, o'⟩ := q
    simp only [look] at hl
    split at hl
    · simp only [Option.some.injEq] at hl; exact ⟨(k, o'), by simp, hl⟩
    · obtain ⟨p, hp, e⟩ := ih hl; exact ⟨p, by simp [hp], e⟩

theorem lookS_mem {sets : List (Nat × Option AObj)} {j : Nat} {x : Option AObj} (hl : lookS sets j = some x) : ∃ p ∈ sets, p.1 = j ∧ p.2 = x := by
  induction sets with
  | nil => cases hl
  | cons q r ih =>
    obtain ⟨k, o'⟩ := q
    simp only [lookS] at hl
    split at hl
    · next e => simp only [Option.some.injEq] at hl; exact ⟨(k, o'), by simp, e.symm, hl⟩
    · obtain ⟨p, hp, e⟩ := ih hl; exact ⟨p, by simp [hp], e⟩

theorem enter_wf {o : Oper} (hw : Wf s) {p : Dl} (h : eff E ops s o = some p) (he : enter s o p = some s') : Wf s' := by
  obtain ⟨v, sets, adds⟩ := p
  obtain ⟨h1, h2, h3⟩ := eff_ids hw h
  have h4 : ∀ i ∈ sets.map (·.1), s.mem.used i = true := fun i hi => opIds_used hw i (tch_ids.1 i (eff_sets h i hi))
  obtain ⟨m, hm, _, rfl⟩ := enter_spec he
  obtain ⟨a1, a2, rfl⟩ := addAll_iff.1 hm
  have hu : ∀ i, s.mem.used i = true → (addF (setF s.mem sets) adds).used i = true := fun i hi => addF_used.2 (.inl hi)
  refine ⟨fun t i hi => ?_, fun j ob hj i hi => ?_, fun j ob hj => ?_⟩
  · simp only at hi ⊢
    split at hi
    · rcases h1 i hi with h | h
      · exact hu i h
      · exact addF_used.2 (.inr h)
    · exact hu i (hw.fr t i hi)
  · simp only [addF] at hj
    cases hl : look adds j with
    | none =>
      rw [hl] at hj
      simp only [setF] at hj
      cases hs : lookS sets j with
      | none => rw [hs] at hj; exact hu i (hw.ob j ob hj i hi)
      | some x =>
        rw [hs] at hj
        obtain ⟨p, hp, _, e⟩ := lookS_mem hs
        exact hu i (h3 p hp ob (e.trans hj) i hi)
    | some ob' =>
      rw [hl] at hj
      simp only [Option.some.injEq] at hj
      subst hj
      obtain ⟨p, hp, rfl⟩ := look_mem hl
      exact hu i (h2 p hp i hi)
  · simp only [addF] at hj
    cases hl : look adds j with
    | none =>
      rw [hl] at hj
      simp only [setF] at hj
      cases hs : lookS sets j with
      | none => rw [hs] at hj; exact hu j (hw.us j ob hj)
      | some x =>
        obtain ⟨p, hp, e, _⟩ := lookS_mem hs
        exact hu j (h4 j (List.mem_map.2 ⟨p, hp, e⟩))
    | some ob' =>
      refine addF_used.2 (.inr ?_)
      exact Classical.byContradiction fun hn => by rw [look_none.2 hn] at hl; cases hl

/-! ### What an effect looks at -/

theorem callArgs_sub (op : Op) : ∀ x ∈ callArgs op, x ∈ op.operands.toList := by
  intro x hx
  cases op with
  | call c => simp only [callArgs] at hx; simp only [Op.operands, Call.operands]; cases c.callee <;> simp <;> simp at hx <;> simp [hx]
  | _ => cases hx

theorem opIds_congr {ρ ρ' : Operand → SV} {o : Oper} (h : ∀ x ∈ o.op.operands.toList, ρ x = ρ' x) : opIds ρ o = opIds ρ' o := by
  unfold opIds
  have : ∀ l : List Operand, (∀ x ∈ l, ρ x = ρ' x) → (l.flatMap fun x => (ρ x).ids) = l.flatMap fun x => (ρ' x).ids := by
    intro l
    induction l with
    | nil => intro _; rfl
    | cons x r ih => intro h; simp only [List.flatMap_cons]; rw [h x (by simp), ih fun y hy => h y (by simp [hy])]
  exact this _ h

theorem wrIds_congr {ρ ρ' : Operand → SV} (op : Op) (h : ∀ x ∈ op.operands.toList, ρ x = ρ' x) : wrIds ρ op = wrIds ρ' op := by
  unfold wrIds
  split
  · next p _ => rw [h p (by simp [Op.operands])]
  · next args _ =>
    split
    · next x r ex => rw [h x (mem_ops1 (by simp [ex]))]
    · rfl
  · next args _ =>
    split
    · next x r ex => rw [h x (mem_ops1 (by simp [ex]))]
    · rfl
  · rfl

theorem tch_congr {t : St} {o : Oper} (h : ∀ x ∈ o.op.operands.toList, t.opv x = s.opv x) (ht : t.mem.tmps = s.mem.tmps) : tch E t o = tch E s o := by
  unfold tch
  rw [opIds_congr h, wrIds_congr o.op h, ht]

theorem flatIds_congr {V V' : Nat → Option AObj} : ∀ {l : List Nat}, (∀ i ∈ l, V i = V' i) → (l.flatMap fun i => match V i with | some ob => ob.ids | none => []) = l.flatMap fun i => match V' i with | some ob => ob.ids | none => []
  | [], _ => rfl
  | x :: r, h => by simp only [List.flatMap_cons]; rw [h x (by simp), flatIds_congr fun y hy => h y (by simp [hy])]

/-- All that an operation looks at. -/
def lookIds (E : Env) (s : St) (o : Oper) : List Nat := (tch E s o).W ++ (tch E s o).R

theorem rdIds_look {o : Oper} : ∀ i ∈ rdIds E s o, i ∈ lookIds E s o := by
  intro i hi
  unfold rdIds at hi
  unfold lookIds tch
  split at hi <;> first | (cases hi; done) | (rename_i hc; simp only [hc]; simp [hi]; done) | skip
  next hc1 hc2 hc3 hc4 =>
    cases hc : clOf E o.op with
    | pure => exact absurd hc hc1
    | new => exact absurd hc hc2
    | other => exact absurd hc hc3
    | store => exact absurd hc hc4
    | read => simp [hi]
    | call C => simp [hi]
    | append => simp [hi]
    | copy => simp [hi]

theorem seeIds_congr {t : St} {o : Oper} (h : ∀ x ∈ o.op.operands.toList, t.opv x = s.opv x) (hV : ∀ i ∈ lookIds E s o, t.mem.objs i = s.mem.objs i) : seeIds E t o = seeIds E s o := by
  have e : rdIds E t o = rdIds E s o := by
    unfold rdIds
    rw [opIds_congr h, wrIds_congr o.op h]
  unfold seeIds
  rw [e, opIds_congr h]
  exact congrArg (opIds s.opv o ++ ·) (flatIds_congr fun i hi => hV i (rdIds_look i hi))

theorem prn_congr {t : St} {o : Oper} (h : ∀ x ∈ o.op.operands.toList, t.opv x = s.opv x) (hV : ∀ i ∈ lookIds E s o, t.mem.objs i = s.mem.objs i) :
    prn E t o = prn E s o := by
  unfold prn
  split
  · rw [pureOp_congr _ h]
  · next hc =>
    have hV' : ∀ x ∈ o.op.operands.toList, ∀ i ∈ (t.opv x).ids, t.mem.objs i = s.mem.objs i := fun x hx i hi => hV i (by
      simp only [lookIds, tch, hc, List.nil_append]
      exact List.mem_flatMap.2 ⟨x, hx, by rw [← h x hx]; exact hi⟩)
    rw [readOp_congr _ h hV']
  · rw [newOp_congr (V := t.mem.objs) (V' := s.mem.objs) _ h]
  · next C hc =>
    have e1 : (callArgs o.op).map t.opv = (callArgs o.op).map s.opv := List.map_congr_left fun x hx => h x (callArgs_sub _ x hx)
    rw [e1, decPTs_congr (V := t.mem.objs) (V' := s.mem.objs) _ _ ?_]
    intro v hv i hi
    obtain ⟨x, hx, rfl⟩ := List.mem_map.1 hv
    exact hV i (by
      simp only [lookIds, tch, hc, List.nil_append]
      exact List.mem_flatMap.2 ⟨x, callArgs_sub _ x hx, hi⟩)
  · rfl

theorem effStep_congr {t : St} {o : Oper} (h : ∀ x ∈ o.op.operands.toList, t.opv x = s.opv x) (hV : ∀ i ∈ lookIds E s o, t.mem.objs i = s.mem.objs i) :
    effStep E t o = effStep E s o := by
  unfold effStep prnS
  rw [prn_congr h hV, seeIds_congr h hV]
  split
  · next hc =>
    rw [storeOp_congr (V := t.mem.objs) (V' := s.mem.objs) o.op h fun i hi => hV i (by
      simp only [lookIds, tch, hc, List.append_nil]
      rw [← wrIds_congr o.op h]; exact hi)]
  · next hc =>
    rw [appendOp_congr (V := t.mem.objs) (V' := s.mem.objs) h fun i hi => hV i (by
      simp only [lookIds, tch, hc]
      rw [← opIds_congr h]; exact List.mem_append_right _ hi)]
  · next hc =>
    rw [copyOp_congr (V := t.mem.objs) (V' := s.mem.objs) h fun i hi => hV i (by
      simp only [lookIds, tch, hc]
      rw [← opIds_congr h]; exact List.mem_append_right _ hi)]
  · rfl
  · rfl

/-- The effect of 'y' is the same behind the entry of something apart from it. -/
theorem eff_after {o y : Oper} (hw : Wf s) {p : Dl} (he : enter s o p = some s') (hap : ∀ d, o.dst = some d → d ∉ y.looksAt ops) (hW : ∀ i ∈ p.2.1.map (·.1), i ∉ lookIds E s y) :
    eff E ops s' y = eff E ops s y ∧ tch E s' y = tch E s y := by
  obtain ⟨v, sets, adds⟩ := p
  obtain ⟨m, hm, _, rfl⟩ := enter_spec he
  obtain ⟨a1, a2, rfl⟩ := addAll_iff.1 hm
  have hopv : ∀ x ∈ y.op.operands.toList, ({ fr := fun t => if o.dst = some t then v else s.fr t, n := s.n, mem := addF (setF s.mem sets) adds } : St).opv x = s.opv x := by
    intro x hx
    cases x with
    | tmp t =>
      simp only [St.opv]
      split
      · next e => exact absurd (show t ∈ y.looksAt ops from List.mem_append_left _ (List.mem_filterMap.2 ⟨Operand.tmp t, hx, rfl⟩)) (hap t e)
      · rfl
    | _ => rfl
  have hV : ∀ i ∈ lookIds E s y, (addF (setF s.mem sets) adds).objs i = s.mem.objs i := by
    intro i hi
    have hu : s.mem.used i = true := by
      rcases List.mem_append.1 hi with hi | hi
      · exact opIds_used hw i (tch_ids.1 i hi)
      · exact opIds_used hw i (tch_ids.2 i hi)
    rw [addF_old a1 (show (setF s.mem sets).used i = true from hu)]
    exact setF_old fun hm => hW i hm hi
  refine ⟨?_, tch_congr hopv rfl⟩
  unfold eff
  split
  · exact effStep_congr hopv hV
  · next g want hg =>
    split
    · next t ht =>
      have hne : ¬ o.dst = some t := fun e => hap t e (by
        unfold Oper.looksAt
        refine List.mem_append_right _ ?_
        rw [hg]
        simp [ht])
      simp only [hne, if_false]
      split
      · rw [effStep_congr hopv hV]
      · rfl
      · rfl
    · rfl

theorem enter_comm {x y : Oper} (hw : Wf s) {s1 s2 : St} {p q : Dl} (hx : enter s x p = some s1) (hy : enter s1 y q = some s2) (hd : ∀ d, x.dst = some d → y.dst ≠ some d)
    (hWW : ∀ i ∈ p.2.1.map (·.1), i ∉ q.2.1.map (·.1)) (hpu : ∀ i ∈ p.2.1.map (·.1), s.mem.used i = true) (hqu : ∀ i ∈ q.2.1.map (·.1), s.mem.used i = true) :
    ∃ s1', enter s y q = some s1' ∧ enter s1' x p = some s2 := by
  obtain ⟨m1, hm1, hd1, rfl⟩ := enter_spec hx
  obtain ⟨m2, hm2, hd2, rfl⟩ := enter_spec hy
  obtain ⟨a1, a2, rfl⟩ := addAll_iff.1 hm1
  obtain ⟨b1, b2, rfl⟩ := addAll_iff.1 hm2
  have hb : ∀ i ∈ q.2.2.map (·.1), s.mem.used i = false ∧ i ∉ p.2.2.map (·.1) := fun i hi => by
    have := b1 i hi
    constructor
    · cases h : s.mem.used i with
      | false => rfl
      | true => rw [show (setF (addF (setF s.mem p.2.1) p.2.2) q.2.1).used i = true from addF_used.2 (.inl h)] at this; cases this
    · intro h; rw [show (setF (addF (setF s.mem p.2.1) p.2.2) q.2.1).used i = true from addF_used.2 (.inr h)] at this; cases this
  have hswap : addF (setF (addF (setF s.mem q.2.1) q.2.2) p.2.1) p.2.2 = addF (setF (addF (setF s.mem p.2.1) p.2.2) q.2.1) q.2.2 := by
    refine Mem.ext' (fun i => ?_) (fun i => ?_) rfl
    · simp only [addF, setF]
      by_cases hu : s.mem.used i = true
      · have e1 : look p.2.2 i = none := look_none.2 fun hm => by rw [show s.mem.used i = false from a1 i hm] at hu; cases hu
        have e2 : look q.2.2 i = none := look_none.2 fun hm => by rw [(hb i hm).1] at hu; cases hu
        rw [e1, e2]
        simp only
        by_cases hp : i ∈ p.2.1.map (·.1)
        · rw [lookS_none (hWW i hp)]
        · rw [lookS_none hp]
      · have e1 : lookS p.2.1 i = none := lookS_none fun hm => hu (hpu i hm)
        have e2 : lookS q.2.1 i = none := lookS_none fun hm => hu (hqu i hm)
        rw [e1, e2]
        simp only
        cases hq : look q.2.2 i with
        | none => cases look p.2.2 i <;> rfl
        | some o =>
          have : i ∈ q.2.2.map (·.1) := Classical.byContradiction fun h => by rw [look_none.2 h] at hq; cases hq
          rw [look_none.2 (hb i this).2]
    · simp only [addF, setF]
      cases s.mem.used i <;> cases (p.2.2.map (·.1)).contains i <;> cases (q.2.2.map (·.1)).contains i <;> rfl
  have h1 : addAll (setF s.mem q.2.1) q.2.2 = some (addF (setF s.mem q.2.1) q.2.2) := addAll_iff.2 ⟨fun i hi => (hb i hi).1, b2, rfl⟩
  have h2 : addAll (setF (addF (setF s.mem q.2.1) q.2.2) p.2.1) p.2.2 = some (addF (setF (addF (setF s.mem p.2.1) p.2.2) q.2.1) q.2.2) := addAll_iff.2 ⟨fun i hi => by
    cases h : (setF (addF (setF s.mem q.2.1) q.2.2) p.2.1).used i with
    | false => rfl
    | true =>
      rcases addF_used.1 h with h | h
      · rw [show (setF s.mem q.2.1).used i = false from a1 i hi] at h; cases h
      · exact absurd hi (hb i h).2, a2, hswap.symm⟩
  refine ⟨_, enter_mk h1 hd2, ?_⟩
  refine (enter_mk (s := { fr := fun t => if y.dst = some t then q.1 else s.fr t, n := s.n, mem := addF (setF s.mem q.2.1) q.2.2 }) h2 hd1).trans ?_
  simp only [Option.some.injEq, St.mk.injEq, and_true]
  funext t
  by_cases e1 : x.dst = some t
  · have e2 := hd t e1
    simp [e1, e2]
  · simp [e1]

theorem Tch.apart_free {x y : Tch} (h : x.apart y = true) : x.free = true ∧ y.free = true := by
  unfold Tch.apart at h
  simp only [Bool.and_eq_true] at h
  exact h.1

theorem Tch.apart_spec {x y : Tch} (h : x.apart y = true) : (∀ i ∈ x.W, i ∉ y.W) ∧ (∀ i ∈ x.W, i ∉ y.R) ∧ (∀ i ∈ y.W, i ∉ x.R) := by
  unfold Tch.apart at h
  simp only [Bool.and_eq_true, Bool.not_eq_true'] at h
  exact ⟨inter_false h.2.1, inter_false h.2.2.1, inter_false h.2.2.2⟩

/-- Two operations that touch apart may change places; what they touch is as it was. -/
theorem gstep_comm {x y : Oper} (hw : Wf s) {s1 s2 : St} (hap : x.apart ops y = true) (hT : (tch E s x).apart (tch E s1 y) = true) (h1 : gstep E ops s x = some s1) (h2 : gstep E ops s1 y = some s2) :
    ∃ s1', gstep E ops s y = some s1' ∧ gstep E ops s1' x = some s2 ∧ tch E s y = tch E s1 y ∧ tch E s1' x = tch E s x := by
  obtain ⟨a1, a2, a3⟩ := Oper.apart_spec hap
  obtain ⟨t1, t2, t3⟩ := Tch.apart_spec hT
  obtain ⟨f1, f2⟩ := Tch.apart_free hT
  rw [gstep_P f1] at h1
  rw [gstep_P f2] at h2
  cases hx : eff E ops s x with
  | none => rw [hx] at h1; cases h1
  | some p =>
    rw [hx] at h1
    simp only [Option.bind_some] at h1
    have hps : ∀ i ∈ p.2.1.map (·.1), i ∈ (tch E s x).W := by obtain ⟨v, sets, adds⟩ := p; exact eff_sets hx
    -- the touch of y in s1 is that in s
    have hopv : ∀ z ∈ y.op.operands.toList, s1.opv z = s.opv z := by
      obtain ⟨m, hm, _, rfl⟩ := enter_spec h1
      intro z hz
      cases z with
      | tmp t =>
        simp only [St.opv]
        split
        · next e => exact absurd (show t ∈ y.looksAt ops from List.mem_append_left _ (List.mem_filterMap.2 ⟨Operand.tmp t, hz, rfl⟩)) (a1 t e)
        · rfl
      | _ => rfl
    have ety : tch E s1 y = tch E s y := tch_congr hopv (by
      obtain ⟨m, hm, _, rfl⟩ := enter_spec h1
      obtain ⟨_, _, rfl⟩ := addAll_iff.1 hm
      rfl)
    rw [ety] at t1 t2 t3
    obtain ⟨e1, _⟩ := eff_after (E := E) (ops := ops) (y := y) hw h1 a1 fun i hi hm => by
      rcases List.mem_append.1 hm with hm | hm
      · exact t1 i (hps i hi) hm
      · exact t2 i (hps i hi) hm
    rw [e1] at h2
    cases hy : eff E ops s y with
    | none => rw [hy] at h2; cases h2
    | some q =>
      rw [hy] at h2
      simp only [Option.bind_some] at h2
      have hqs : ∀ i ∈ q.2.1.map (·.1), i ∈ (tch E s y).W := by obtain ⟨v, sets, adds⟩ := q; exact eff_sets hy
      obtain ⟨s1', g1, g2⟩ := enter_comm hw h1 h2 a2 (fun i hi hm => t1 i (hps i hi) (hqs i hm)) (fun i hi => opIds_used hw i (tch_ids.1 i (hps i hi))) (fun i hi => opIds_used hw i (tch_ids.1 i (hqs i hi)))
      obtain ⟨e2, e3⟩ := eff_after (E := E) (ops := ops) (y := x) hw g1 a3 fun i hi hm => by
        rcases List.mem_append.1 hm with hm | hm
        · exact t1 i hm (hqs i hi)
        · exact t3 i (hqs i hi) hm
      refine ⟨s1', by rw [gstep_P (ety ▸ f2), hy]; exact g1, ?_, ety.symm, e3⟩
      rw [gstep_P (by rw [e3]; exact f1), e2, hx]
      exact g2

theorem gstep_wf {x : Oper} (hw : Wf s) {s1 : St} (hfree : (tch E s x).free = true) (h1 : gstep E ops s x = some s1) : Wf s1 := by
  rw [gstep_P hfree] at h1
  cases hx : eff E ops s x with
  | none => rw [hx] at h1; cases h1
  | some p => rw [hx] at h1; exact enter_wf hw hx h1

/-! ### Runs that tell what is touched -/

def runT (E : Env) (ops : Array Oper) : List (Oper × Tch) → St → Option St → Prop
  | [], s, r => r = some s
  | (o, t) :: l, s, r => tch E s o = t ∧ ∃ s1, gstep E ops s o = some s1 ∧ runT E ops l s1 r

/-- Taken to the front. -/
theorem runT_front {y : Oper} {ty : Tch} : ∀ (L R : List (Oper × Tch)) {s : St} {r : Option St}, Wf s → (∀ x ∈ L, x.1.apart ops y = true ∧ x.2.apart ty = true) → runT E ops (L ++ (y, ty) :: R) s r → runT E ops ((y, ty) :: (L ++ R)) s r
  | [], R, s, r, hw, hc, h => h
  | (x, tx) :: L, R, s, r, hw, hc, h => by
    obtain ⟨h1, s1, h2, h3⟩ := h
    obtain ⟨c1, c2⟩ := hc (x, tx) (by simp)
    obtain ⟨g1, s2, g2, g3⟩ := runT_front L R (gstep_wf hw (by rw [h1]; exact (Tch.apart_free c2).1) h2) (fun z hz => hc z (by simp [hz])) h3
    obtain ⟨s1', k1, k2, k3, k4⟩ := gstep_comm hw c1 (by rw [h1, g1]; exact c2) h2 g2
    exact ⟨k3.trans g1, s1', k1, k4.trans h1, s2, k2, g3⟩

end
end Go.Sx
