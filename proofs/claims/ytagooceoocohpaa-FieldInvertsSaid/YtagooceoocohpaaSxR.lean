/-
  Guards; a region in its text order; a region in any order.
-/
import Derived.Test.YtagooceoocohpaaSxQ
import Derived.Orders
set_option linter.unusedVariables false
namespace Go.Sx

def gstep (E : Env) (ops : Array Oper) (s : St) (o : Oper) : Option St :=
  match o.guard with
  | none => step E s o
  | some (g, want) => match (ops[g]?).bind (·.dst) with
    | some t => (match s.fr t with
      | .sc (.bool b) => if b = want then step E s o else putD s o.dst (.tup [])
      | .tup [] => putD s o.dst (.tup [])
      | _ => none)
    | none => none

/-- One operation comes up. -/
def OpAfter (P : Program) (w0 : World) (F : Nat → Prop) (ops : Array Oper) (s' : St) (a : Act) (w : World) (o : Oper) : Prop :=
  ∀ (K : Act → World → Prop) (Q : Exit → Act → World → Prop), (∀ φ' a' w', Rel w0 F φ' s' a' w' → K a' w') →
    if Region.wanted o (yielded ops a.tmps) = true then o.wp P a w K Q else K (a.put o.dst undef) w

section
variable {E : Env} {φ : Nat → Place} {s s' : St} {w0 : World} {F : Nat → Prop} {a : Act} {w : World} {ops : Array Oper}

theorem undef_R {φ m} : (SV.tup []).R φ m undef := ⟨[], rfl, trivial⟩

theorem Rel.yielded_some (h : Rel w0 F φ s a w) {g t : Nat} {b : Bool} (hg : (ops[g]?).bind (·.dst) = some t) (hb : s.fr t = .sc (.bool b)) : yielded ops a.tmps g = some b := by
  unfold yielded
  rw [hg]
  have := h.fr t
  rw [hb] at this
  simp only [SV.R, Ck.R] at this
  have hv : a.tmps.getD t undef = .bool b := by simpa using this
  have ht : a.tmps[t]? = some (.bool b) := by
    rw [Array.getD_eq_getD_getElem?] at hv
    cases hx : a.tmps[t]? with
    | none => rw [hx] at hv; simp [undef] at hv
    | some u => rw [hx] at hv; simpa using hv
  simp [ht]

theorem Rel.yielded_none (h : Rel w0 F φ s a w) {g t : Nat} (hg : (ops[g]?).bind (·.dst) = some t) (hb : s.fr t = .tup []) : yielded ops a.tmps g = none := by
  unfold yielded
  rw [hg]
  have := h.fr t
  rw [hb] at this
  obtain ⟨l, hl, hl2⟩ := this
  cases l with
  | cons _ _ => exact hl2.elim
  | nil =>
    simp only [Option.bind_some]
    cases hx : a.tmps[t]? with
    | none => rfl
    | some u =>
      rw [Array.getD_eq_getD_getElem?, hx] at hl
      simp at hl
      subst hl
      rfl

theorem gstep_sound (hE : E.ok) {o : Oper} (h : Rel w0 F φ s a w) (hs : gstep E ops s o = some s') : OpAfter E.P w0 F ops s' a w o := by
  have hskip : ∀ {s'}, putD s o.dst (.tup []) = some s' → Rel w0 F φ s' (a.put o.dst undef) w := fun hs => h.putD undef_R (by simp [SV.ids]) hs
  intro K Q hK
  unfold gstep at hs
  split at hs
  · next hg =>
    have : Region.wanted o (yielded ops a.tmps) = true := by simp [Region.wanted, hg]
    rw [if_pos this]
    exact step_sound hE h hs K Q hK
  · next g want hg =>
    split at hs
    · next t ht =>
      split at hs
      · next b hb =>
        have hy := h.yielded_some ht hb
        split at hs
        · next e =>
          have : Region.wanted o (yielded ops a.tmps) = true := by simp [Region.wanted, hg, hy, e]
          rw [if_pos this]
          exact step_sound hE h hs K Q hK
        · next e =>
          have : ¬ Region.wanted o (yielded ops a.tmps) = true := by simp [Region.wanted, hg, hy, e]
          rw [if_neg this]
          exact hK _ _ _ (hskip hs)
      · next hb =>
        have hy := h.yielded_none ht hb
        have : ¬ Region.wanted o (yielded ops a.tmps) = true := by simp [Region.wanted, hg, hy]
        rw [if_neg this]
        exact hK _ _ _ (hskip hs)
      · cases hs
    · cases hs

/-! ### In text order -/

def runL (E : Env) (ops : Array Oper) : List Oper → St → Option St
  | [], s => some s
  | o :: r, s => (gstep E ops s o).bind (runL E ops r)

theorem runL_sound (hE : E.ok) {Q : Exit → Act → World → Prop} : ∀ (l : List Oper) {φ : Nat → Place} {s s' : St} {a : Act} {w : World}, Rel w0 F φ s a w → runL E ops l s = some s' →
    (∀ φ' a' w', Rel w0 F φ' s' a' w' → Q .normal a' w') → wpList E.P ops Q l a w
  | [], φ, s, s', a, w, h, hs, hQ => by simp only [runL, Option.some.injEq] at hs; subst hs; exact hQ _ _ _ h
  | o :: r, φ, s, s', a, w, h, hs, hQ => by
    simp only [runL] at hs
    cases hg : gstep E ops s o with
    | none => rw [hg] at hs; cases hs
    | some s1 =>
      rw [hg] at hs
      exact wpList_step fun K hK => gstep_sound hE h hg K Q fun φ' a' w' h' => hK _ _ (runL_sound hE r h' hs hQ)

/-! ### The names that a state speaks of are used -/

structure Wf (s : St) : Prop where
  fr : ∀ t, ∀ i ∈ (s.fr t).ids, s.mem.used i = true
  ob : ∀ j o, s.mem.objs j = some o → ∀ i ∈ o.ids, s.mem.used i = true
  us : ∀ j o, s.mem.objs j = some o → s.mem.used j = true

theorem Rel.wf (h : Rel w0 F φ s a w) : Wf s := ⟨h.frids, h.objids, h.usedo⟩

/-! ### Many new objects at once -/

def look : List (Nat × AObj) → Nat → Option AObj
  | [], _ => none
  | (i, o) :: r, j => if j = i then some o else look r j

theorem look_none {l : List (Nat × AObj)} {j : Nat} : look l j = none ↔ j ∉ l.map (·.1) := by
  induction l with
  | nil => simp [look]
  | cons p r ih =>
    obtain ⟨i, o⟩ := p
    simp only [look]
    split
    · next e => simp [e]
    · next e => simp [ih, e]

def addF (m : Mem) (l : List (Nat × AObj)) : Mem :=
  { objs := fun j => match look l j with | some o => some o | none => m.objs j, used := fun j => m.used j || (l.map (·.1)).contains j }

theorem Mem.ext' {m m' : Mem} (h1 : ∀ i, m.objs i = m'.objs i) (h2 : ∀ i, m.used i = m'.used i) : m = m' := by
  cases m; cases m'; simp only [Mem.mk.injEq]; exact ⟨funext h1, funext h2⟩

theorem addAll_iff {m m' : Mem} {l : List (Nat × AObj)} : addAll m l = some m' ↔ (∀ i ∈ l.map (·.1), m.used i = false) ∧ (l.map (·.1)).Nodup ∧ m' = addF m l := by
  induction l generalizing m with
  | nil =>
    simp only [addAll, List.map_nil, List.not_mem_nil, false_implies, implies_true, List.nodup_nil, true_and, Option.some.injEq]
    have : addF m [] = m := Mem.ext' (fun i => rfl) (fun i => by simp [addF])
    rw [this]; exact eq_comm
  | cons p r ih =>
    obtain ⟨i, o⟩ := p
    simp only [addAll, List.map_cons, List.mem_cons, forall_eq_or_imp, List.nodup_cons]
    by_cases hi : m.used i = false
    · rw [if_pos hi, ih]
      have hadd : addF (m.add i o) r = addF m ((i, o) :: r) ∨ i ∈ r.map (·.1) := by
        by_cases hm : i ∈ r.map (·.1)
        · exact .inr hm
        · refine .inl (Mem.ext' (fun j => ?_) (fun j => ?_))
          · simp only [addF, Mem.add, look]
            by_cases e : j = i
            · subst e; rw [look_none.2 hm]; simp
            · simp [e]
          · simp only [addF, Mem.add, List.map_cons, List.contains_cons]
            by_cases e : j = i
            · subst e; simp
            · have e' : (j == i) = false := by simp [e]
              rw [if_neg e, e', Bool.false_or]
      constructor
      · rintro ⟨h1, h2, rfl⟩
        have hm : i ∉ r.map (·.1) := fun hm => by have := h1 i hm; simp [Mem.add] at this
        refine ⟨⟨hi, fun j hj => ?_⟩, ⟨hm, h2⟩, hadd.resolve_right hm⟩
        have := h1 j hj
        simp only [Mem.add] at this
        split at this
        · cases this
        · exact this
      · rintro ⟨⟨_, h1⟩, ⟨hm, h2⟩, rfl⟩
        refine ⟨fun j hj => ?_, h2, (hadd.resolve_right hm).symm⟩
        have : j ≠ i := fun e => hm (e ▸ hj)
        simp [Mem.add, this, h1 j hj]
    · rw [if_neg hi]
      simp [hi]

theorem addF_used {m : Mem} {l : List (Nat × AObj)} {i : Nat} : (addF m l).used i = true ↔ m.used i = true ∨ i ∈ l.map (·.1) := by
  simp [addF]

theorem addF_old {m : Mem} {l : List (Nat × AObj)} (h : ∀ i ∈ l.map (·.1), m.used i = false) {i : Nat} (hi : m.used i = true) : (addF m l).objs i = m.objs i := by
  have : look l i = none := look_none.2 fun hm => by rw [h i hm] at hi; cases hi
  simp [addF, this]

theorem addF_swap {m : Mem} {A B : List (Nat × AObj)} (hd : ∀ i ∈ A.map (·.1), i ∉ B.map (·.1)) : addF (addF m A) B = addF (addF m B) A := by
  refine Mem.ext' (fun i => ?_) (fun i => ?_)
  · simp only [addF]
    cases ha : look A i with
    | none => cases look B i <;> rfl
    | some o =>
      have : i ∈ A.map (·.1) := Classical.byContradiction fun h => by rw [look_none.2 h] at ha; cases ha
      rw [look_none.2 (hd i this)]
  · simp only [addF]
    cases m.used i <;> cases (A.map (·.1)).contains i <;> cases (B.map (·.1)).contains i <;> rfl

theorem addAll_swap {m m1 m2 : Mem} {A B : List (Nat × AObj)} (h1 : addAll m A = some m1) (h2 : addAll m1 B = some m2) :
    ∃ m1', addAll m B = some m1' ∧ addAll m1' A = some m2 := by
  obtain ⟨a1, a2, rfl⟩ := addAll_iff.1 h1
  obtain ⟨b1, b2, rfl⟩ := addAll_iff.1 h2
  have hb : ∀ i ∈ B.map (·.1), m.used i = false ∧ i ∉ A.map (·.1) := fun i hi => by
    have := b1 i hi
    constructor
    · cases h : m.used i with
      | false => rfl
      | true => rw [addF_used.2 (.inl h)] at this; cases this
    · intro h; rw [addF_used.2 (.inr h)] at this; cases this
  refine ⟨addF m B, addAll_iff.2 ⟨fun i hi => (hb i hi).1, b2, rfl⟩, addAll_iff.2 ⟨fun i hi => ?_, a2, ?_⟩⟩
  · cases h : (addF m B).used i with
    | false => rfl
    | true =>
      rcases addF_used.1 h with h | h
      · rw [a1 i hi] at h; cases h
      · exact absurd hi (hb i h).2
  · exact addF_swap fun i hi hi' => (hb i hi').2 hi

/-! ### Operations that write nothing: effect, then its entry -/

def isP (E : Env) (o : Oper) : Bool := match clOf E o.op with
  | .pure => true
  | .read => true
  | .new => true
  | .call _ => true
  | _ => false

def effStep (E : Env) (s : St) (o : Oper) : Option (SV × List (Nat × AObj)) :=
  match prn E s o with
  | some (v, adds) =>
    if inAll v.ids (viewIds s.mem.objs (opIds s.opv o) ++ adds.map (·.1)) = true ∧ inAll (adds.flatMap fun p => p.2.ids) (viewIds s.mem.objs (opIds s.opv o)) = true then some (v, adds) else none
  | none => none

def eff (E : Env) (ops : Array Oper) (s : St) (o : Oper) : Option (SV × List (Nat × AObj)) :=
  match o.guard with
  | none => effStep E s o
  | some (g, want) => match (ops[g]?).bind (·.dst) with
    | some t => (match s.fr t with
      | .sc (.bool b) => if b = want then effStep E s o else some (.tup [], [])
      | .tup [] => some (.tup [], [])
      | _ => none)
    | none => none

def enter (s : St) (o : Oper) (p : SV × List (Nat × AObj)) : Option St :=
  match addAll s.mem p.2 with
  | some m => putD { s with mem := m } o.dst p.1
  | none => none

theorem step_P {o : Oper} (hp : isP E o = true) : step E s o = (effStep E s o).bind (enter s o) := by
  have hstep : step E s o = (match prn E s o with | some (v, adds) => fin s o v adds | none => none) := by
    unfold isP at hp
    unfold step
    split at hp <;> first | (cases hp; done) | (next e => simp only [e]; rfl)
  rw [hstep]
  unfold effStep
  cases prn E s o with
  | none => rfl
  | some p =>
    obtain ⟨v, adds⟩ := p
    simp only
    by_cases hc : inAll v.ids (viewIds s.mem.objs (opIds s.opv o) ++ adds.map (·.1)) = true ∧ inAll (adds.flatMap fun p => p.2.ids) (viewIds s.mem.objs (opIds s.opv o)) = true
    · rw [if_pos hc, Option.bind_some]
      unfold fin enter
      cases hm : addAll s.mem adds with
      | none => rfl
      | some m =>
        simp only
        rw [if_pos hc]
        unfold putD
        cases o.dst <;> rfl
    · rw [if_neg hc, Option.bind_none]
      unfold fin
      cases hm : addAll s.mem adds with
      | none => rfl
      | some m =>
        simp only
        rw [if_neg hc]

theorem gstep_P {o : Oper} (hp : isP E o = true) : gstep E ops s o = (eff E ops s o).bind (enter s o) := by
  have hskip : putD s o.dst (.tup []) = enter s o (.tup [], []) := rfl
  unfold gstep eff
  split
  · exact step_P hp
  · split
    · split
      · split
        · exact step_P hp
        · exact hskip
      · exact hskip
      · rfl
    · rfl

theorem eff_ids {o : Oper} (hw : Wf s) {v : SV} {adds : List (Nat × AObj)} (h : eff E ops s o = some (v, adds)) :
    (∀ i ∈ v.ids, s.mem.used i = true ∨ i ∈ adds.map (·.1)) ∧ ∀ p ∈ adds, ∀ i ∈ p.2.ids, s.mem.used i = true := by
  have hop : ∀ i ∈ opIds s.opv o, s.mem.used i = true := fun i hi => by
    obtain ⟨x, _, hx⟩ := List.mem_flatMap.1 hi
    cases x with
    | tmp t => exact hw.fr t i hx
    | const v => rw [show s.opv (.const v) = constSV v from rfl, (constSV_R (φ := fun _ => ⟨none, 0⟩) (m := fun _ => none) v).2] at hx; cases hx
    | global g => simp [St.opv, SV.ids] at hx
    | func f => simp [St.opv, SV.ids, Ck.ids] at hx
  have hview : ∀ i ∈ viewIds s.mem.objs (opIds s.opv o), s.mem.used i = true := fun i hi => by
    rcases List.mem_append.1 hi with hi | hi
    · exact hop i hi
    · obtain ⟨j, hj, hij⟩ := List.mem_flatMap.1 hi
      cases hm : s.mem.objs j with
      | none => simp [hm] at hij
      | some ob => simp [hm] at hij; exact hw.ob j ob hm i hij
  have hstep : ∀ {v adds}, effStep E s o = some (v, adds) → (∀ i ∈ v.ids, s.mem.used i = true ∨ i ∈ adds.map (·.1)) ∧ ∀ p ∈ adds, ∀ i ∈ p.2.ids, s.mem.used i = true := by
    intro v adds h
    unfold effStep at h
    split at h
    · split at h
      · next hc =>
        simp only [Option.some.injEq, Prod.mk.injEq] at h
        obtain ⟨rfl, rfl⟩ := h
        refine ⟨fun i hi => ?_, fun p hp i hi => hview i (inAll_spec hc.2 i (List.mem_flatMap.2 ⟨p, hp, hi⟩))⟩
        rcases List.mem_append.1 (inAll_spec hc.1 i hi) with h | h
        · exact .inl (hview i h)
        · exact .inr h
      · cases h
    · cases h
  have hskip : some ((SV.tup [], []) : SV × List (Nat × AObj)) = some (v, adds) → (∀ i ∈ v.ids, s.mem.used i = true ∨ i ∈ adds.map (·.1)) ∧ ∀ p ∈ adds, ∀ i ∈ p.2.ids, s.mem.used i = true := by
    intro h
    simp only [Option.some.injEq, Prod.mk.injEq] at h
    obtain ⟨rfl, rfl⟩ := h
    exact ⟨by simp [SV.ids], by simp⟩
  unfold eff at h
  split at h
  · exact hstep h
  · split at h
    · split at h
      · split at h
        · exact hstep h
        · exact hskip h
      · exact hskip h
      · cases h
    · cases h

theorem enter_spec {o : Oper} {p : SV × List (Nat × AObj)} (h : enter s o p = some s') :
    ∃ m, addAll s.mem p.2 = some m ∧ (∀ d, o.dst = some d → d < s.n) ∧ s' = { fr := fun t => if o.dst = some t then p.1 else s.fr t, n := s.n, mem := m } := by
  unfold enter at h
  split at h
  · next m hm =>
    refine ⟨m, hm, ?_⟩
    unfold putD at h
    split at h
    · next d hd =>
      split at h
      · next hlt =>
        simp only [Option.some.injEq] at h
        subst h
        refine ⟨fun e he => ?_, ?_⟩
        · rw [hd] at he; simp only [Option.some.injEq] at he; subst he; exact hlt
        · simp only [St.put, St.mk.injEq, and_true]
          funext t
          rw [hd]
          by_cases e : t = d
          · simp [e]
          · have : ¬ d = t := fun x => e x.symm
            simp [e, this]
      · cases h
    · next hd =>
      simp only [Option.some.injEq] at h
      subst h
      rw [hd]
      simp
  · cases h

theorem enter_mk {o : Oper} {p : SV × List (Nat × AObj)} {m : Mem} (hm : addAll s.mem p.2 = some m) (hd : ∀ d, o.dst = some d → d < s.n) :
    enter s o p = some { fr := fun t => if o.dst = some t then p.1 else s.fr t, n := s.n, mem := m } := by
  unfold enter
  simp only [hm]
  unfold putD
  split
  · next d hd' =>
    rw [if_pos (hd d hd')]
    simp only [St.put, Option.some.injEq, St.mk.injEq, and_true]
    funext t
    rw [hd']
    by_cases e : t = d
    · simp [e]
    · have : ¬ d = t := fun x => e x.symm
      simp [e, this]
  · next hd' =>
    rw [hd']
    simp

theorem enter_wf {o : Oper} (hw : Wf s) {v : SV} {adds : List (Nat × AObj)} (h : eff E ops s o = some (v, adds)) (he : enter s o (v, adds) = some s') : Wf s' := by
  obtain ⟨h1, h2⟩ := eff_ids hw h
  obtain ⟨m, hm, _, rfl⟩ := enter_spec he
  obtain ⟨a1, a2, rfl⟩ := addAll_iff.1 hm
  have hu : ∀ i, s.mem.used i = true → (addF s.mem adds).used i = true := fun i hi => addF_used.2 (.inl hi)
  refine ⟨fun t i hi => ?_, fun j ob hj i hi => ?_, fun j ob hj => ?_⟩
  · simp only at hi ⊢
    split at hi
    · rcases h1 i hi with h | h
      · exact hu i h
      · exact addF_used.2 (.inr h)
    · exact hu i (hw.fr t i hi)
  · simp only [addF] at hj
    cases hl : look adds j with
    | none => rw [hl] at hj; exact hu i (hw.ob j ob hj i hi)
    | some ob' =>
      rw [hl] at hj
      simp only [Option.some.injEq] at hj
      subst hj
      have : ∃ p ∈ adds, p.2 = ob' := by
        clear hm a1 a2 h1 h2 h he hi hu
        induction adds with
        | nil => cases hl
        | cons q r ih =>
          obtain ⟨k, o'⟩ := q
          simp only [look] at hl
          split at hl
          · simp only [Option.some.injEq] at hl; exact ⟨(k, o'), by simp, hl⟩
          · obtain ⟨p, hp, e⟩ := ih hl; exact ⟨p, by simp [hp], e⟩
      obtain ⟨p, hp, rfl⟩ := this
      exact hu i (h2 p hp i hi)
  · simp only [addF] at hj
    cases hl : look adds j with
    | none => rw [hl] at hj; exact hu j (hw.us j ob hj)
    | some ob' =>
      refine addF_used.2 (.inr ?_)
      exact Classical.byContradiction fun hn => by rw [look_none.2 hn] at hl; cases hl

/-! ### What an effect looks at -/

theorem callArgs_sub (op : Op) : ∀ x ∈ callArgs op, x ∈ op.operands.toList := by
  intro x hx
  cases op with
  | call c => simp only [callArgs] at hx; simp only [Op.operands, Call.operands]; cases c.callee <;> simp <;> simp at hx <;> simp [hx]
  | _ => cases hx

theorem prn_congr {t : St} {o : Oper} (h : ∀ x ∈ o.op.operands.toList, t.opv x = s.opv x) (hV : ∀ x ∈ o.op.operands.toList, ∀ i ∈ (s.opv x).ids, t.mem.objs i = s.mem.objs i) :
    prn E t o = prn E s o := by
  have hV' : ∀ x ∈ o.op.operands.toList, ∀ i ∈ (t.opv x).ids, t.mem.objs i = s.mem.objs i := fun x hx i hi => hV x hx i (by rw [← h x hx]; exact hi)
  unfold prn
  split
  · rw [pureOp_congr _ h]
  · rw [readOp_congr _ h hV']
  · rw [newOp_congr (V := t.mem.objs) (V' := s.mem.objs) _ h]
  · next C _ =>
    have e1 : (callArgs o.op).map t.opv = (callArgs o.op).map s.opv := List.map_congr_left fun x hx => h x (callArgs_sub _ x hx)
    rw [e1, decPTs_congr (V := t.mem.objs) (V' := s.mem.objs) _ _ ?_]
    intro v hv i hi
    obtain ⟨x, hx, rfl⟩ := List.mem_map.1 hv
    exact hV x (callArgs_sub _ x hx) i hi
  · rfl

theorem opIds_congr {ρ ρ' : Operand → SV} {o : Oper} (h : ∀ x ∈ o.op.operands.toList, ρ x = ρ' x) : opIds ρ o = opIds ρ' o := by
  unfold opIds
  have : ∀ l : List Operand, (∀ x ∈ l, ρ x = ρ' x) → (l.flatMap fun x => (ρ x).ids) = l.flatMap fun x => (ρ' x).ids := by
    intro l
    induction l with
    | nil => intro _; rfl
    | cons x r ih => intro h; simp only [List.flatMap_cons]; rw [h x (by simp), ih fun y hy => h y (by simp [hy])]
  exact this _ h

theorem viewIds_congr {V V' : Nat → Option AObj} {l : List Nat} (h : ∀ i ∈ l, V i = V' i) : viewIds V l = viewIds V' l := by
  unfold viewIds
  have : ∀ l : List Nat, (∀ x ∈ l, V x = V' x) → (l.flatMap fun i => match V i with | some ob => ob.ids | none => []) = l.flatMap fun i => match V' i with | some ob => ob.ids | none => [] := by
    intro l
    induction l with
    | nil => intro _; rfl
    | cons x r ih => intro h; simp only [List.flatMap_cons]; rw [h x (by simp), ih fun y hy => h y (by simp [hy])]
  exact congrArg (l ++ ·) (this l h)

theorem effStep_congr {t : St} {o : Oper} (h : ∀ x ∈ o.op.operands.toList, t.opv x = s.opv x) (hV : ∀ x ∈ o.op.operands.toList, ∀ i ∈ (s.opv x).ids, t.mem.objs i = s.mem.objs i) :
    effStep E t o = effStep E s o := by
  unfold effStep
  rw [prn_congr h hV, opIds_congr h, viewIds_congr (V := t.mem.objs) (V' := s.mem.objs) (l := opIds s.opv o) (fun i hi => by
    obtain ⟨x, hx, hi⟩ := List.mem_flatMap.1 hi
    exact hV x hx i hi)]

/-- The effect of 'y' is the same behind the entry of something apart from it. -/
theorem eff_after {o y : Oper} (hw : Wf s) {v : SV} {adds : List (Nat × AObj)} (he : enter s o (v, adds) = some s') (hap : ∀ d, o.dst = some d → d ∉ y.looksAt ops) :
    eff E ops s' y = eff E ops s y := by
  obtain ⟨m, hm, _, rfl⟩ := enter_spec he
  obtain ⟨a1, a2, rfl⟩ := addAll_iff.1 hm
  have hopv : ∀ x ∈ y.op.operands.toList, ({ fr := fun t => if o.dst = some t then v else s.fr t, n := s.n, mem := addF s.mem adds } : St).opv x = s.opv x := by
    intro x hx
    cases x with
    | tmp t =>
      simp only [St.opv]
      split
      · next e => exact absurd (show t ∈ y.looksAt ops from List.mem_append_left _ (List.mem_filterMap.2 ⟨Operand.tmp t, hx, rfl⟩)) (hap t e)
      · rfl
    | _ => rfl
  have hV : ∀ x ∈ y.op.operands.toList, ∀ i ∈ (s.opv x).ids, (addF s.mem adds).objs i = s.mem.objs i := by
    intro x hx i hi
    refine addF_old a1 ?_
    cases x with
    | tmp t => exact hw.fr t i hi
    | const v => rw [show s.opv (.const v) = constSV v from rfl, (constSV_R (φ := fun _ => ⟨none, 0⟩) (m := fun _ => none) v).2] at hi; cases hi
    | global g => simp [St.opv, SV.ids] at hi
    | func f => simp [St.opv, SV.ids, Ck.ids] at hi
  unfold eff
  split
  · exact effStep_congr hopv hV
  · next g want hg =>
    split
    · next t ht =>
      have hne : ¬ o.dst = some t := fun e => hap t e (by
        unfold Oper.looksAt
        refine List.mem_append_right _ ?_
        rw [hg]
        simp [ht])
      simp only [hne, if_false]
      split
      · rw [effStep_congr hopv hV]
      · rfl
      · rfl
    · rfl

theorem enter_comm {x y : Oper} (hw : Wf s) {s1 s2 : St} {p q : SV × List (Nat × AObj)} (hx : enter s x p = some s1) (hy : enter s1 y q = some s2) (hd : ∀ d, x.dst = some d → y.dst ≠ some d) :
    ∃ s1', enter s y q = some s1' ∧ enter s1' x p = some s2 := by
  obtain ⟨m1, hm1, hd1, rfl⟩ := enter_spec hx
  obtain ⟨m2, hm2, hd2, rfl⟩ := enter_spec hy
  obtain ⟨m1', h1, h2⟩ := addAll_swap hm1 hm2
  refine ⟨_, enter_mk h1 hd2, ?_⟩
  refine (enter_mk (s := { fr := fun t => if y.dst = some t then q.1 else s.fr t, n := s.n, mem := m1' }) (m := m2) h2 hd1).trans ?_
  simp only [Option.some.injEq, St.mk.injEq, and_true]
  funext t
  by_cases e1 : x.dst = some t
  · have e2 := hd t e1
    simp [e1, e2]
  · simp [e1]

theorem gstep_comm {x y : Oper} (hw : Wf s) {s1 s2 : St} (hpx : isP E x = true) (hpy : isP E y = true) (hap : x.apart ops y = true) (h1 : gstep E ops s x = some s1) (h2 : gstep E ops s1 y = some s2) :
    ∃ s1', gstep E ops s y = some s1' ∧ gstep E ops s1' x = some s2 := by
  obtain ⟨a1, a2, a3⟩ := Oper.apart_spec hap
  rw [gstep_P hpx] at h1
  rw [gstep_P hpy] at h2
  cases hx : eff E ops s x with
  | none => rw [hx] at h1; cases h1
  | some p =>
    rw [hx] at h1
    simp only [Option.bind_some] at h1
    have e1 := eff_after (E := E) (ops := ops) (y := y) hw h1 a1
    rw [e1] at h2
    cases hy : eff E ops s y with
    | none => rw [hy] at h2; cases h2
    | some q =>
      rw [hy] at h2
      simp only [Option.bind_some] at h2
      obtain ⟨s1', g1, g2⟩ := enter_comm hw h1 h2 a2
      refine ⟨s1', by rw [gstep_P hpy, hy]; exact g1, ?_⟩
      rw [gstep_P hpx, eff_after (E := E) (ops := ops) (y := x) hw g1 a3, hx]
      exact g2

theorem gstep_wf {x : Oper} (hw : Wf s) {s1 : St} (hpx : isP E x = true) (h1 : gstep E ops s x = some s1) : Wf s1 := by
  rw [gstep_P hpx] at h1
  cases hx : eff E ops s x with
  | none => rw [hx] at h1; cases h1
  | some p => rw [hx] at h1; exact enter_wf hw hx h1

/-- Taken to the front. -/
theorem runL_front {y : Oper} : ∀ (L R : List Oper) {s s' : St}, Wf s → (∀ x ∈ L, isP E x = true ∧ isP E y = true ∧ x.apart ops y = true) → runL E ops (L ++ y :: R) s = some s' → runL E ops (y :: (L ++ R)) s = some s'
  | [], R, s, s', hw, hc, h => h
  | x :: L, R, s, s', hw, hc, h => by
    simp only [List.cons_append, runL] at h
    cases hx : gstep E ops s x with
    | none => rw [hx] at h; cases h
    | some s1 =>
      rw [hx] at h
      simp only [Option.bind_some] at h
      obtain ⟨c1, c2, c3⟩ := hc x (by simp)
      have := runL_front L R (gstep_wf hw c1 hx) (fun z hz => hc z (by simp [hz])) h
      simp only [runL] at this
      cases hy : gstep E ops s1 y with
      | none => rw [hy] at this; cases this
      | some s2 =>
        rw [hy] at this
        simp only [Option.bind_some] at this
        obtain ⟨s1', g1, g2⟩ := gstep_comm hw c1 c2 c3 hx hy
        simp only [runL, List.cons_append, g1, g2, Option.bind_some]
        exact this

end
end Go.Sx
