/-
  Shapes: states at the head of a loop, or behind a join, told by a tuple.
-/
import Derived.Test.YtagooceoocohpaaSyO
set_option linter.unusedVariables false
namespace Go.Sx

section
variable {φ : Nat → Place} {s s' : St} {w0 : World} {F : Fp} {a : Act} {w : World}

/-! ### The names that a state speaks of are used -/

structure Wf (s : St) : Prop where
  fr : ∀ t, ∀ i ∈ (s.fr t).ids, s.mem.used i = true
  ob : ∀ j o, s.mem.objs j = some o → ∀ i ∈ o.ids, s.mem.used i = true
  us : ∀ j o, s.mem.objs j = some o → s.mem.used j = true

theorem Rel.wf (h : Rel w0 F φ s a w) : Wf s := ⟨h.frids, h.objids, h.usedo⟩


/-- A state that says less. -/
theorem Rel.sub (h : Rel w0 F φ s a w) {s2 : St} (hn : s2.n = s.n) (hfr : ∀ t, s2.fr t = s.fr t ∨ s2.fr t = .none) (hob : ∀ i, s2.mem.objs i = s.mem.objs i ∨ s2.mem.objs i = none) (hw : Wf s2) (ht : ∀ i ∈ s.mem.tmps, i ∈ s2.mem.tmps ∨ s2.mem.objs i = none) (hp : ∀ p ∈ F.pin, s2.mem.used p.1 = true) :
    Rel w0 F φ s2 a w := by
  have hk : ∀ i, KeepI φ s.mem.objs φ s2.mem.objs i := fun i => ⟨rfl, fun T xs o h2 => by
    rcases hob i with e | e
    · exact ⟨T, xs, o, by rw [← e]; exact h2, rfl⟩
    · rw [e] at h2; cases h2⟩
  have hsub : ∀ {i o}, s2.mem.objs i = some o → s.mem.objs i = some o := fun {i o} h2 => by
    rcases hob i with e | e
    · rw [← e]; exact h2
    · rw [e] at h2; cases h2
  have hown : ∀ {i b}, ownBlock φ s2.mem.objs i b → ownBlock φ s.mem.objs i b := fun {i b} hb => by
    rcases hb with ⟨cs, h1, h2⟩ | ⟨T, xs, o, h1, h2⟩ | ⟨K, V, es, h1, h2⟩
    · exact .inl ⟨cs, hsub h1, h2⟩
    · exact .inr (.inl ⟨T, xs, o, hsub h1, h2⟩)
    · exact .inr (.inr ⟨K, V, es, hsub h1, h2⟩)
  exact {
    defers := h.defers
    size := by rw [hn]; exact h.size
    fr := fun t => by
      rcases hfr t with e | e
      · rw [e]; exact (h.fr t).keep fun i _ => hk i
      · rw [e]; trivial
    frids := hw.fr
    objids := hw.ob
    usedo := hw.us
    mem := fun i o hi => (h.mem i o (hsub hi)).keep (fun j _ => hk j) rfl fun _ _ _ _ => rfl
    inj := fun i j b hi hj => h.inj i j b (hown hi) (hown hj)
    ro := fun i T xs hi => by
      rcases h.ro i T xs (hsub hi) with q | q
      · rcases ht i q with q | q
        · exact .inl q
        · rw [q] at hi; cases hi
      · exact .inr q
    fb := h.fb
    old := h.old
    pinned := fun p hp' => ⟨(h.pinned p hp').1, hp p hp'⟩ }

/-- Without the lists that are read until the next write. -/
def St.clear (s : St) (l : List Nat) : St :=
  { s with mem := { objs := fun i => (match l.contains i with | true => none | false => s.mem.objs i), used := s.mem.used, tmps := [] } }

def St.clearT (s : St) : St := match s.mem.tmps with
  | [] => s
  | l => s.clear l

theorem St.clearT_nil (h : s.mem.tmps = []) : s.clearT = s := by unfold St.clearT; rw [h]

theorem St.clearT_tmps : s.clearT.mem.tmps = [] := by
  unfold St.clearT
  split
  · next h => exact h
  · rfl

theorem Rel.clearT (h : Rel w0 F φ s a w) : Rel w0 F φ s.clearT a w := by
  unfold St.clearT
  split
  · exact h
  · have hob : ∀ i, (s.clear s.mem.tmps).mem.objs i = s.mem.objs i ∨ (s.clear s.mem.tmps).mem.objs i = none := fun i => by
      simp only [St.clear]
      cases s.mem.tmps.contains i
      · exact .inl rfl
      · exact .inr rfl
    refine h.sub rfl (fun t => .inl rfl) hob ⟨h.frids, fun j o hj => ?_, fun j o hj => ?_⟩ (fun i hi => .inr ?_) (fun p hp => (h.pinned p hp).2)
    · rcases hob j with e | e
      · exact h.objids j o (by rw [← e]; exact hj)
      · rw [e] at hj; cases hj
    · rcases hob j with e | e
      · exact h.usedo j o (by rw [← e]; exact hj)
      · rw [e] at hj; cases hj
    · have : s.mem.tmps.contains i = true := by simpa using hi
      simp only [St.clear, this]

/-! ### Patterns -/

def eqCk : Ck → Ck → Bool
  | .int k x, .int k' x' => decide (k = k') && decide (x = x')
  | .bool b, .bool b' => b == b'
  | .nilp, .nilp => true
  | .nils, .nils => true
  | .nilm, .nilm => true
  | .nilf, .nilf => true
  | .fn f, .fn g => Nat.beq f g
  | .clo f l, .clo g l' => Nat.beq f g && (l == l')
  | .ptr i o, .ptr j p => Nat.beq i j && Nat.beq o p
  | .sl i, .sl j => Nat.beq i j
  | .mp i, .mp j => Nat.beq i j
  | .unk n, .unk m => Nat.beq n m
  | _, _ => false

theorem eqCk_spec {c d : Ck} (h : eqCk c d = true) : c = d := by
  unfold eqCk at h
  split at h <;> first | rfl | (cases h; done) | (simp only [Bool.and_eq_true, decide_eq_true_eq, beq_iff_eq] at h; simp [h]; done) | (have := Nat.eq_of_beq_eq_true h; subst this; rfl) | skip
  all_goals first
    | (simp only [Bool.and_eq_true] at h; obtain ⟨h1, h2⟩ := h; have := Nat.eq_of_beq_eq_true h1; subst this; first | (have := Nat.eq_of_beq_eq_true h2; subst this; rfl) | (have := eq_of_beq h2; subst this; rfl))

inductive CkP where
  | int (k : IntKind)
  | bool
  | str
  | arr (k : IntKind) (n : Nat)
  | fix (c : Ck)
  | pel (i off n : Nat)
  | pls (i sz fo : Nat)
  | win (i sz : Nat)
  | awin (i off N : Nat)

def CkP.with (D : Type) : CkP → Type
  | .int _ => Int × D
  | .bool => Bool × D
  | .str => ByteArray × D
  | .arr _ _ => (Nat → Int) × D
  | .fix _ => D
  | .pel _ _ _ => Int × D
  | .pls _ _ _ => Int × D
  | .win _ _ => Int × Int × D
  | .awin _ _ _ => Int × Int × D

def CkP.put {D : Type} : (p : CkP) → p.with D → Ck × D
  | .int k, y => (.int k y.1, y.2)
  | .bool, y => (.bool y.1, y.2)
  | .str, y => (.str y.1, y.2)
  | .arr k n, y => (.arr k n y.1, y.2)
  | .fix c, y => (c, y)
  | .pel i off n, y => (.pel i off n y.1, y.2)
  | .pls i sz fo, y => (.pls i sz y.1 fo, y.2)
  | .win i sz, y => (.win i sz y.1 y.2.1, y.2.2)
  | .awin i off N, y => (.awin i off N y.1 y.2.1, y.2.2)

def CkP.get {D : Type} : (p : CkP) → Ck → D → Option (p.with D)
  | .int k, .int k' x, d => if k = k' then some (x, d) else none
  | .bool, .bool b, d => some (b, d)
  | .str, .str b, d => some (b, d)
  | .arr k n, .arr k' n' f, d => if k = k' ∧ n = n' then some (f, d) else none
  | .fix c, c', d => (match eqCk c c' with | true => some d | false => none)
  | .pel i off n, .pel i' off' n' e, d => if i = i' ∧ off = off' ∧ n = n' then some (e, d) else none
  | .pls i sz fo, .pls i' sz' e fo', d => if i = i' ∧ sz = sz' ∧ fo = fo' then some (e, d) else none
  | .win i sz, .win i' sz' lo n, d => if i = i' ∧ sz = sz' then some (lo, n, d) else none
  | .awin i off N, .awin i' off' N' lo n, d => if i = i' ∧ off = off' ∧ N = N' then some (lo, n, d) else none
  | _, _, _ => none

theorem CkP.get_put {D : Type} {p : CkP} {c : Ck} {d : D} {y : p.with D} (h : p.get c d = some y) : p.put y = (c, d) := by
  unfold CkP.get at h
  split at h
  case h_5 =>
    split at h
    · next e => have := eqCk_spec e; subst this; cases h; rfl
    · cases h
  case h_2 => cases h; rfl
  case h_3 => cases h; rfl
  all_goals first
    | (cases h; done)
    | (split at h
       · next e => first | (subst e; cases h; rfl) | (obtain ⟨rfl, rfl⟩ := e; cases h; rfl) | (obtain ⟨rfl, rfl, rfl⟩ := e; cases h; rfl)
       · cases h)

def PsDen (D : Type) : List CkP → Type
  | [] => D
  | p :: r => p.with (PsDen D r)

def encPs {D : Type} : (ps : List CkP) → PsDen D ps → List Ck × D
  | [], y => ([], y)
  | p :: r, y =>
    let u := p.put y
    let v := encPs r u.2
    (u.1 :: v.1, v.2)

def getPs {D : Type} : (ps : List CkP) → List Ck → D → Option (PsDen D ps)
  | [], cs, d => (match cs with | [] => some d | _ => none)
  | p :: r, cs, d => (match cs with
    | c :: cs => (match getPs r cs d with
      | some y => p.get c y
      | none => none)
    | [] => none)

theorem getPs_enc {D : Type} : ∀ (ps : List CkP) (cs : List Ck) (d : D) (y : PsDen D ps), getPs ps cs d = some y → encPs ps y = (cs, d)
  | [], cs, d, y, h => by
    simp only [getPs] at h
    split at h
    · cases h; rfl
    · cases h
  | p :: r, cs, d, y, h => by
    simp only [getPs] at h
    split at h
    · next c cs =>
      split at h
      · next z hz =>
        have h1 := CkP.get_put h
        have h2 := getPs_enc r cs d z hz
        simp only [encPs, h1, h2]
      · cases h
    · cases h

inductive SVP where
  | sc (p : CkP)
  | agg (ps : List CkP)

def SVP.with (D : Type) : SVP → Type
  | .sc p => p.with D
  | .agg ps => PsDen D ps

def SVP.put {D : Type} : (p : SVP) → p.with D → SV × D
  | .sc p, y => let u := p.put y; (.sc u.1, u.2)
  | .agg ps, y => let u := encPs ps y; (.agg u.1, u.2)

def SVP.get {D : Type} : (p : SVP) → SV → D → Option (p.with D)
  | .sc p, .sc c, d => p.get c d
  | .agg ps, .agg cs, d => getPs ps cs d
  | _, _, _ => none

theorem none_ne {α : Type} {y : α} (h : (none : Option α) = some y) : False := by cases h

theorem SVP.get_put {D : Type} {p : SVP} {c : SV} {d : D} {y : p.with D} (h : p.get c d = some y) : p.put y = (c, d) := by
  cases p with
  | sc p => cases c with
    | sc c => have := CkP.get_put (show p.get c d = some y from h); simp only [SVP.put, this]
    | _ => have h : (none : Option (SVP.with D (.sc p))) = some y := h; exact (none_ne h).elim
  | agg p => cases c with
    | agg c => have := getPs_enc _ _ _ _ (show getPs p c d = some y from h); simp only [SVP.put, this]
    | _ => have h : (none : Option (SVP.with D (.agg p))) = some y := h; exact (none_ne h).elim

inductive ObjP where
  | var (ps : List CkP)
  | lst (T : Ty) (own : Bool)
  | map (K V : Ty)

def castM (K V K' V' : Ty) (es : List (K'.den × V'.den)) : Option (List (K.den × V.den)) := if h : K' = K ∧ V' = V then some (h.1 ▸ h.2 ▸ es) else none

theorem castM_spec {K V K' V' : Ty} {es : List (K'.den × V'.den)} {fs : List (K.den × V.den)} (h : castM K V K' V' es = some fs) : K' = K ∧ V' = V ∧ HEq es fs := by
  unfold castM at h
  split at h
  · next e =>
    obtain ⟨rfl, rfl⟩ := e
    simp at h; subst h; exact ⟨rfl, rfl, HEq.rfl⟩
  · cases h

def ObjP.with (D : Type) : ObjP → Type
  | .var ps => PsDen D ps
  | .lst T _ => List T.den × D
  | .map K V => List (K.den × V.den) × D

def ObjP.put {D : Type} : (p : ObjP) → p.with D → AObj × D
  | .var ps, y => let u := encPs ps y; (.var u.1, u.2)
  | .lst T o, y => (.list T y.1 o, y.2)
  | .map K V, y => (.map K V y.1, y.2)

def ObjP.get {D : Type} : (p : ObjP) → AObj → D → Option (p.with D)
  | .var ps, .var cs, d => getPs ps cs d
  | .lst T o, .list T' xs o', d => if o = o' then (match castL T T' xs with | some ys => some (ys, d) | none => none) else none
  | .map K V, .map K' V' es, d => (match castM K V K' V' es with | some fs => some (fs, d) | none => none)
  | _, _, _ => none

theorem ObjP.get_put {D : Type} {p : ObjP} {c : AObj} {d : D} {y : p.with D} (h : p.get c d = some y) : p.put y = (c, d) := by
  cases p with
  | var p => cases c with
    | var c => have := getPs_enc _ _ _ _ (show getPs p c d = some y from h); simp only [ObjP.put, this]
    | _ => have h : (none : Option (ObjP.with D (.var p))) = some y := h; exact (none_ne h).elim
  | lst T o => cases c with
    | list T' xs o' =>
      have h2 : (if o = o' then (match castL T T' xs with | some ys => some (ys, d) | none => none) else (none : Option (List T.den × D))) = some y := h
      clear h
      split at h2
      · next e =>
        subst e
        split at h2
        · next ys hy =>
          obtain ⟨rfl, hh⟩ := castL_spec hy
          have := eq_of_heq hh
          subst this
          have h3 := Option.some.inj h2
          have h4 : y = (xs, d) := h3.symm
          rw [h4]; rfl
        · exact (none_ne h2).elim
      · exact (none_ne h2).elim
    | _ => have h : (none : Option (ObjP.with D (.lst T o))) = some y := h; exact (none_ne h).elim
  | map K V => cases c with
    | map K' V' es =>
      have h2 : (match castM K V K' V' es with | some fs => some (fs, d) | none => (none : Option (List (K.den × V.den) × D))) = some y := h
      clear h
      split at h2
      · next fs hy =>
        obtain ⟨rfl, rfl, hh⟩ := castM_spec hy
        have := eq_of_heq hh
        subst this
        have h3 := Option.some.inj h2
        have h4 : y = (es, d) := h3.symm
        rw [h4]; rfl
      · exact (none_ne h2).elim
    | _ => have h : (none : Option (ObjP.with D (.map K V))) = some y := h; exact (none_ne h).elim

def SlotsDen (D : Type) : List (Nat × SVP) → Type
  | [] => D
  | (_, p) :: r => p.with (SlotsDen D r)

def encSlots {D : Type} : (l : List (Nat × SVP)) → SlotsDen D l → List (Nat × SV) × D
  | [], y => ([], y)
  | (t, p) :: r, y =>
    let u := p.put y
    let v := encSlots r u.2
    ((t, u.1) :: v.1, v.2)

def getSlots {D : Type} (fr : Nat → SV) : (l : List (Nat × SVP)) → D → Option (SlotsDen D l)
  | [], d => some d
  | (t, p) :: r, d => (match getSlots fr r d with
    | some y => p.get (fr t) y
    | none => none)

theorem getSlots_enc {D : Type} {fr : Nat → SV} : ∀ (l : List (Nat × SVP)) (d : D) (y : SlotsDen D l), getSlots fr l d = some y →
    (encSlots l y).2 = d ∧ (∀ q ∈ (encSlots l y).1, fr q.1 = q.2)
  | [], d, y, h => by obtain rfl : d = y := Option.some.inj h; exact ⟨rfl, by simp [encSlots]⟩
  | (t, p) :: r, d, y, h => by
    simp only [getSlots] at h
    split at h
    · next z hz =>
      have h1 := SVP.get_put h
      obtain ⟨h2, h3⟩ := getSlots_enc r d z hz
      simp only [encSlots, h1]
      refine ⟨h2, fun q hq => ?_⟩
      rcases List.mem_cons.1 hq with rfl | hq
      · rfl
      · exact h3 q hq
    · cases h

def ObjsDen (D : Type) : List (Nat × ObjP) → Type
  | [] => D
  | (_, p) :: r => p.with (ObjsDen D r)

def encObjs {D : Type} : (l : List (Nat × ObjP)) → ObjsDen D l → List (Nat × AObj) × D
  | [], y => ([], y)
  | (t, p) :: r, y =>
    let u := p.put y
    let v := encObjs r u.2
    ((t, u.1) :: v.1, v.2)

def getObjs {D : Type} (V : Nat → Option AObj) : (l : List (Nat × ObjP)) → D → Option (ObjsDen D l)
  | [], d => some d
  | (t, p) :: r, d => (match getObjs V r d with
    | some y => (match V t with
      | some o => p.get o y
      | none => none)
    | none => none)

theorem getObjs_enc {D : Type} {V : Nat → Option AObj} : ∀ (l : List (Nat × ObjP)) (d : D) (y : ObjsDen D l), getObjs V l d = some y →
    (encObjs l y).2 = d ∧ (∀ q ∈ (encObjs l y).1, V q.1 = some q.2)
  | [], d, y, h => by obtain rfl : d = y := Option.some.inj h; exact ⟨rfl, by simp [encObjs]⟩
  | (t, p) :: r, d, y, h => by
    simp only [getObjs] at h
    split at h
    · next z hz =>
      split at h
      · next o ho =>
        have h1 := ObjP.get_put h
        obtain ⟨h2, h3⟩ := getObjs_enc r d z hz
        simp only [encObjs, h1]
        refine ⟨h2, fun q hq => ?_⟩
        rcases List.mem_cons.1 hq with rfl | hq
        · exact ho
        · exact h3 q hq
      · cases h
    · cases h

/-! ### Shapes -/

theorem encObjs_ids {D : Type} : ∀ (l : List (Nat × ObjP)) (y : ObjsDen D l), (encObjs l y).1.map (·.1) = l.map (·.1)
  | [], _ => rfl
  | (i, p) :: r, y => by simp only [encObjs, List.map_cons]; rw [encObjs_ids r]

inductive Loc where
  | slot (t : Nat)
  | obj (j idx : Nat)

structure Shape where
  n : Nat
  ren : List (Loc × Ty × Nat)
  slots : List (Nat × SVP)
  objs : List (Nat × ObjP)

def Shape.den (sh : Shape) : Type := SlotsDen (ObjsDen Unit sh.objs) sh.slots

def lookSV : List (Nat × SV) → Nat → SV
  | [], _ => .none
  | (i, v) :: r, t => match Nat.beq t i with | true => v | false => lookSV r t

def lookOb : List (Nat × AObj) → Nat → Option AObj
  | [], _ => none
  | (i, v) :: r, t => match Nat.beq t i with | true => some v | false => lookOb r t

theorem lookSV_spec : ∀ (l : List (Nat × SV)) (t : Nat), lookSV l t = .none ∨ (t, lookSV l t) ∈ l
  | [], t => .inl rfl
  | (i, v) :: r, t => by
    unfold lookSV
    split
    · next e => have := Nat.eq_of_beq_eq_true e; subst this; exact .inr (by simp)
    · rcases lookSV_spec r t with h | h
      · exact .inl h
      · exact .inr (List.mem_cons_of_mem _ h)

theorem lookOb_spec : ∀ (l : List (Nat × AObj)) (t : Nat), lookOb l t = none ∨ ∃ o, lookOb l t = some o ∧ (t, o) ∈ l
  | [], t => .inl rfl
  | (i, v) :: r, t => by
    unfold lookOb
    split
    · next e => have := Nat.eq_of_beq_eq_true e; subst this; exact .inr ⟨v, rfl, by simp⟩
    · rcases lookOb_spec r t with h | ⟨o, h1, h2⟩
      · exact .inl h
      · exact .inr ⟨o, h1, List.mem_cons_of_mem _ h2⟩

def memB : List Nat → Nat → Bool
  | [], _ => false
  | i :: r, t => match Nat.beq t i with | true => true | false => memB r t

theorem memB_iff : ∀ {l : List Nat} {t : Nat}, memB l t = true ↔ t ∈ l
  | [], t => by simp [memB]
  | i :: r, t => by
    unfold memB
    split
    · next e => have := Nat.eq_of_beq_eq_true e; subst this; simp
    · next e =>
      have hne : t ≠ i := fun h => by subst h; simp at e
      rw [memB_iff]; simp [hne]

def Shape.enc (sh : Shape) (x : sh.den) : St :=
  let u := encSlots sh.slots x
  let v := encObjs sh.objs u.2
  { fr := lookSV u.1, n := sh.n, mem := { objs := lookOb v.1, used := memB ((u.1.flatMap fun q => q.2.ids) ++ (v.1.map (·.1)) ++ (v.1.flatMap fun q => q.2.ids)) } }

theorem Shape.enc_wf {sh : Shape} {x : sh.den} : Wf (sh.enc x) := by
  refine ⟨fun t i hi => ?_, fun j o hj i hi => ?_, fun j o hj => ?_⟩
  · simp only [Shape.enc] at hi ⊢
    refine memB_iff.2 (List.mem_append_left _ (List.mem_append_left _ ?_))
    rcases lookSV_spec (encSlots sh.slots x).1 t with h | h
    · rw [h] at hi; cases hi
    · exact List.mem_flatMap.2 ⟨_, h, hi⟩
  · simp only [Shape.enc] at hj ⊢
    refine memB_iff.2 (List.mem_append_right _ ?_)
    rcases lookOb_spec (encObjs sh.objs (encSlots sh.slots x).2).1 j with h | ⟨o', h1, h2⟩
    · rw [h] at hj; cases hj
    · rw [h1] at hj; cases hj; exact List.mem_flatMap.2 ⟨_, h2, hi⟩
  · simp only [Shape.enc] at hj ⊢
    refine memB_iff.2 (List.mem_append_left _ (List.mem_append_right _ ?_))
    rcases lookOb_spec (encObjs sh.objs (encSlots sh.slots x).2).1 j with h | ⟨o', h1, h2⟩
    · rw [h] at hj; cases hj
    · exact List.mem_map.2 ⟨_, h2, rfl⟩

def Loc.slots : Loc → List Nat
  | .slot t => [t]
  | .obj _ _ => []

def Loc.ids (s : St) : Loc → List Nat
  | .slot t => (s.fr t).ids
  | .obj j idx => (match s.mem.objs j with
    | some (.var cs) => (match cs[idx]? with
      | some c => c.ids
      | none => [])
    | _ => [])

/-- What the shape does not name goes. -/
def Shape.cut (sh : Shape) (s : St) : St :=
  let ks := (sh.slots.map (·.1)) ++ (sh.ren.map (·.1)).flatMap Loc.slots
  let os := ((sh.objs.map (·.1)).filter fun i => !memB (sh.ren.map (·.2.2)) i) ++ (sh.ren.map (·.1)).flatMap (Loc.ids s)
  let us := (ks.flatMap fun t => (s.fr t).ids) ++ os ++ os.flatMap fun i => match s.mem.objs i with | some o => o.ids | none => []
  { fr := fun t => match memB ks t with | true => s.fr t | false => .none, n := s.n, mem := { objs := fun i => match memB os i with | true => s.mem.objs i | false => none, used := memB us, tmps := s.mem.tmps } }

/-- The names that stay where they are are told by the shape. -/
def Shape.holds (sh : Shape) (i : Nat) : Bool := memB ((sh.objs.map (·.1)).filter fun i => !memB (sh.ren.map (·.2.2)) i) i

theorem Rel.cut (h : Rel w0 F φ s a w) (sh : Shape) (hp : ∀ p ∈ F.pin, sh.holds p.1 = true) : Rel w0 F φ (sh.cut s) a w := by
  refine h.sub rfl (fun t => ?_) (fun i => ?_) ⟨fun t i hi => ?_, fun j o hj i hi => ?_, fun j o hj => ?_⟩ (fun i hi => .inl hi) (fun p hp' => memB_iff.2 (List.mem_append_left _ (List.mem_append_right _ (List.mem_append_left _ (memB_iff.1 (hp p hp'))))))
  · simp only [Shape.cut]; split
    · exact .inl rfl
    · exact .inr rfl
  · simp only [Shape.cut]; split
    · exact .inl rfl
    · exact .inr rfl
  · simp only [Shape.cut] at hi ⊢
    split at hi
    · next e => exact memB_iff.2 (List.mem_append_left _ (List.mem_append_left _ (List.mem_flatMap.2 ⟨t, memB_iff.1 e, hi⟩)))
    · cases hi
  · simp only [Shape.cut] at hj ⊢
    split at hj
    · next e => exact memB_iff.2 (List.mem_append_right _ (List.mem_flatMap.2 ⟨j, memB_iff.1 e, by rw [hj]; exact hi⟩))
    · cases hj
  · simp only [Shape.cut] at hj ⊢
    split at hj
    · next e => exact memB_iff.2 (List.mem_append_left _ (List.mem_append_right _ (memB_iff.1 e)))
    · cases hj

theorem baseOf_list {V : Nat → Option AObj} {T : Ty} {c : Ck} {b : Bool} {k : Nat} {xs : List T.den} (hb : baseOf V T c = some (b, some k, xs)) : ∃ T' ys, V k = some (.list T' ys true) := by
  unfold baseOf at hb
  split at hb
  · simp at hb
  · split at hb
    · next T' ys hV =>
      split at hb
      · simp only [Option.some.injEq, Prod.mk.injEq] at hb
        obtain ⟨_, rfl, _⟩ := hb
        exact ⟨T', ys, hV⟩
      · cases hb
    · cases hb
  · split at hb
    · next T' ys hV =>
      split at hb
      · split at hb
        · simp only [Option.some.injEq, Prod.mk.injEq] at hb
          obtain ⟨_, rfl, _⟩ := hb
          exact ⟨T', ys, hV⟩
        · cases hb
      · cases hb
    · cases hb
  · cases hb

/-- A list of the call's own gets a new name. -/
def renIn (s : St) (c : Ck) (T : Ty) (i : Nat) : Option (Bool × Mem) :=
  match baseOf s.mem.objs T c with
  | some (b, k, xs) => (match s.mem.used i with
    | true => none
    | false => some (b, (s.mem.del k).add i (.list T xs true)))
  | none => none

def renOne (s : St) (l : Loc) (T : Ty) (i : Nat) : Option (Bool × St) :=
  match l with
  | .slot t => (match s.fr t with
    | .sc c => (match eqCk (.sl i) c with
      | true => some (true, s)
      | false => (match renIn s c T i with
        | some (b, m) => (match decide (t < s.n) with
          | true => some (b, ({ s with mem := m } : St).put t (.sc (.sl i)))
          | false => none)
        | none => none))
    | _ => none)
  | .obj j idx => (match s.mem.objs j with
    | some (.var cs) => (match cs[idx]? with
      | some c => (match eqCk (.sl i) c with
        | true => some (true, s)
        | false => (match renIn s c T i with
          | some (b, m) => some (b, { s with mem := m.set j (.var (cs.set idx (.sl i))) })
          | none => none))
      | none => none)
    | _ => none)

theorem put_self (h : Rel w0 F φ s a w) {t : Nat} (ht : t < s.n) {val : Value} (hv : a.tmps.getD t undef = val) : a.put (some t) val = a := by
  subst hv
  unfold Act.put
  cases a with
  | mk tmps defers =>
    simp only [Act.mk.injEq, and_true]
    apply Array.ext
    · simp
    · intro i h1 h2
      rw [Array.getElem_setIfInBounds h2]
      split
      · next e => subst e; simp [h2]
      · rfl

theorem Rel.renIn (h : Rel w0 F φ s a w) {c : Ck} {val : Value} (hcr : c.R φ s.mem.objs [val]) {T : Ty} {i : Nat} {m : Mem} (hs : Sx.renIn s c T i = some (true, m)) :
    ∃ φ', Rel w0 F φ' { s with mem := m } a w ∧ (Ck.sl i).R φ' m.objs [val] ∧ m.used i = true ∧ (∀ j cs, s.mem.objs j = some (.var cs) → m.objs j = some (.var cs)) ∧
      (∀ j, s.mem.used j = true → j ≠ i) ∧ (∀ j, j ≠ i → φ' j = φ j) := by
  unfold Sx.renIn at hs
  split at hs
  · next b k xs hb =>
    split at hs
    · cases hs
    · next hu =>
      obtain ⟨e1, e2⟩ := Prod.mk.inj (Option.some.inj hs)
      subst e1 e2
      obtain ⟨base, cap, hval, hcase⟩ := baseOf_spec h hb hcr
      have hd := h.del k
      have hu' : ({ s with mem := s.mem.del k } : St).mem.used i = false := by
        cases k <;> exact hu
      have hne : ∀ j, s.mem.used j = true → j ≠ i := fun j hj e => by subst e; rw [hu] at hj; cases hj
      have hvar : ∀ j cs, s.mem.objs j = some (.var cs) → ((s.mem.del k).add i (.list T xs true)).objs j = some (.var cs) := fun j cs hj => by
        have hji := hne j (h.usedo j _ hj)
        cases k with
        | none => simp [Mem.add, Mem.del, hji, hj]
        | some k =>
          have hjk : j ≠ k := fun e => by
            subst e
            obtain ⟨T', ys, hV⟩ := baseOf_list hb
            rw [hj] at hV
            cases hV
          simp [Mem.add, Mem.del, hji, hjk, hj]
      have fin : ∀ {p : Place}, p = ⟨base, cap⟩ → Rel w0 F (updP φ i p) { ({ s with mem := s.mem.del k } : St) with mem := ({ s with mem := s.mem.del k } : St).mem.add i (.list T xs true) } a w → ∃ φ', Rel w0 F φ' ({ s with mem := (s.mem.del k).add i (.list T xs true) } : St) a w ∧ (Ck.sl i).R φ' ((s.mem.del k).add i (.list T xs true)).objs [val] ∧ ((s.mem.del k).add i (.list T xs true)).used i = true ∧ (∀ j cs, s.mem.objs j = some (.var cs) → ((s.mem.del k).add i (.list T xs true)).objs j = some (.var cs)) ∧ (∀ j, s.mem.used j = true → j ≠ i) ∧ (∀ j, j ≠ i → φ' j = φ j) := by
        intro p hp hr
        refine ⟨updP φ i p, hr, ?_, by simp [Mem.add], hvar, hne, fun j hj => by simp [updP, hj]⟩
        simp only [Ck.R, Mem.add, if_true]
        simp [updP, hp, hval]
      rcases hcase with ⟨rfl, rfl⟩ | ⟨b, o, arr, E, lo, hi, pre, post, k', rfl, rfl, hown, hheap, hcells, hpre, hlen, hsz, hfz, hNb⟩
      · refine fin rfl (hd.adopt (b := w.heap.size) (.inr rfl) hu' ⟨rfl, rfl, rfl, rfl, fun _ _ => rfl⟩ (.inl h.old.size) (fun j hj => ?_) ?_ (by simp [AObj.ids]) (fun b' o' _ hq => ?_) (fun T xs hq => by simp at hq))
        · have := ownBlock.lt hd hj; omega
        · exact .inl ⟨rfl, by simp [updP]⟩
        · rcases hq with hq | ⟨cs, hq⟩ | ⟨_, _, _, hq⟩
          · simp at hq
          · cases hq
          · cases hq
      · refine fin rfl (hd.adopt (b := b) (.inr rfl) hu' ⟨rfl, rfl, rfl, rfl, fun _ _ => rfl⟩ hNb (fun j hj => ?_) ?_ (by simp [AObj.ids]) (fun b' o' hq _ => ?_) (fun T xs hq => by simp at hq))
        · have hne : j ≠ k' := by
            rintro rfl
            rcases hj with ⟨cs, q, _⟩ | ⟨T, ys, o', q, _⟩ | ⟨K, V, es, q, _⟩ <;> simp [Mem.del] at q
          have hj' : ownBlock φ s.mem.objs j b := by
            rcases hj with ⟨cs, q, q2⟩ | ⟨T, ys, o', q, q2⟩ | ⟨K, V, es, q, q2⟩
            · exact .inl ⟨cs, by simpa [Mem.del, hne] using q, q2⟩
            · exact .inr (.inl ⟨T, ys, o', by simpa [Mem.del, hne] using q, q2⟩)
            · exact .inr (.inr ⟨K, V, es, by simpa [Mem.del, hne] using q, q2⟩)
          exact hne (h.inj j k' b hj' hown)
        · exact .inr ⟨b, o, arr, E, lo, hi, pre, post, by simp [updP], hheap, hcells, hpre, by simpa [updP] using hlen, by simpa [updP] using hsz, fun _ => ⟨hfz, hNb⟩⟩
        · simp at hq; exact hq.1.symm
  · cases hs

theorem baseOf_sz {V : Nat → Option AObj} {T : Ty} {c : Ck} {b : Bool} {k : Option Nat} {xs : List T.den} (hb : baseOf V T c = some (b, k, xs)) : c.sz = 1 := by
  unfold baseOf at hb
  split at hb <;> first | rfl | cases hb

theorem renIn_sz {c : Ck} {T : Ty} {i : Nat} {b : Bool} {m : Mem} (hs : Sx.renIn s c T i = some (b, m)) : c.sz = 1 := by
  unfold Sx.renIn at hs
  split at hs
  · next hb => exact baseOf_sz hb
  · cases hs

/-- One chunk may be told in the way of a value that is known. -/
theorem FlatR.at_change {φ m} {c' : Ck} : ∀ {cs : List Ck} {idx : Nat} {c : Ck} {l : List Value}, cs[idx]? = some c → FlatR φ m cs l → c.sz = 1 →
    ∃ v, c.R φ m [v] ∧ ∀ φ' m', FlatR φ' m' cs l → c'.R φ' m' [v] → FlatR φ' m' (cs.set idx c') l
  | [], idx, c, l, hc, _, _ => by simp at hc
  | d :: cs, 0, c, l, hc, hl, hsz => by
    simp at hc; subst hc
    obtain ⟨l1, l2, rfl, h1, h2⟩ := hl
    have hlen := Ck.R_length h1
    rw [hsz] at hlen
    match l1, hlen with
    | [v], _ =>
      refine ⟨v, h1, fun φ' m' h h' => ?_⟩
      obtain ⟨k1, k2, e, g1, g2⟩ := h
      have := Ck.R_length g1
      rw [hsz] at this
      match k1, this with
      | [u], _ =>
        simp at e
        obtain ⟨rfl, rfl⟩ := e
        exact ⟨[v], l2, rfl, h', g2⟩
  | d :: cs, idx + 1, c, l, hc, hl, hsz => by
    obtain ⟨l1, l2, rfl, h1, h2⟩ := hl
    obtain ⟨v, g1, g2⟩ := FlatR.at_change (c' := c') (by simpa using hc) h2 hsz
    refine ⟨v, g1, fun φ' m' h h' => ?_⟩
    obtain ⟨k1, k2, e, q1, q2⟩ := h
    have e1 := Ck.R_length h1
    have e2 := Ck.R_length q1
    obtain ⟨rfl, rfl⟩ := List.append_inj e (by omega)
    exact ⟨l1, l2, rfl, q1, g2 φ' m' q2 h'⟩

theorem ids_set {c' : Ck} : ∀ {cs : List Ck} {idx : Nat} (i : Nat), i ∈ Cks.ids (cs.set idx c') → i ∈ Cks.ids cs ∨ i ∈ c'.ids
  | [], idx, i, h => by simp at h; exact .inl h
  | d :: cs, 0, i, h => by
    simp only [List.set_cons_zero, Cks.ids, List.mem_append] at h ⊢
    exact h.elim .inr fun h => .inl (.inr h)
  | d :: cs, idx + 1, i, h => by
    simp only [List.set_cons_succ, Cks.ids, List.mem_append] at h ⊢
    rcases h with h | h
    · exact .inl (.inl h)
    · exact (ids_set i h).imp .inr id

theorem Rel.renOne (h : Rel w0 F φ s a w) {l : Loc} {T : Ty} {i : Nat} (hs : Sx.renOne s l T i = some (true, s')) : ∃ φ', Rel w0 F φ' s' a w := by
  unfold Sx.renOne at hs
  split at hs
  · next t =>
    split at hs
    · next c hc =>
      split at hs
      · cases hs; exact ⟨φ, h⟩
      · split at hs
        · next b m hm =>
          split at hs
          · next hlt =>
            have hlt := of_decide_eq_true hlt
            obtain ⟨e1, e2⟩ := Prod.mk.inj (Option.some.inj hs)
            subst e1 e2
            have hcr := h.fr t
            rw [hc] at hcr
            obtain ⟨φ', r1, r2, r3, _⟩ := h.renIn hcr hm
            refine ⟨φ', ?_⟩
            have hr2 := r1.put (d := t) (sv := .sc (.sl i)) hlt r2 (by simpa [SV.ids, Ck.ids] using r3)
            rwa [put_self h hlt rfl] at hr2
          · cases hs
        · cases hs
    · cases hs
  · next j idx =>
    split at hs
    · next cs hj =>
      split at hs
      · next c hc =>
        split at hs
        · cases hs; exact ⟨φ, h⟩
        · split at hs
          · next b m hm =>
            obtain ⟨e1, e2⟩ := Prod.mk.inj (Option.some.inj hs)
            subst e1 e2
            obtain ⟨b, arr, E, lo, hi, q1, q2, q3, q4, q5⟩ := h.mem j _ hj
            have hsz := renIn_sz hm
            obtain ⟨v, hv, hch⟩ := FlatR.at_change (c' := .sl i) hc q3 hsz
            obtain ⟨φ', r1, r2, r3, r4, r5, r6⟩ := h.renIn hv hm
            have hj' := r4 j cs hj
            have hji := r5 j (h.usedo j _ hj)
            obtain ⟨b', arr', E', lo', hi', q1', q2', q3', q4', q5'⟩ := r1.mem j _ hj'
            have hb : b' = b := by
              rw [r6 j hji, q1] at q1'
              simp at q1'
              exact q1'.symm
            subst hb
            rw [q2] at q2'
            simp only [Option.some.injEq, Obj.cells.injEq, Prod.mk.injEq] at q2'
            obtain ⟨rfl, rfl, rfl, rfl⟩ := q2'
            have hk : ∀ k, KeepI φ' m.objs φ' (m.add j (.var (cs.set idx (.sl i)))).objs k := fun k => ⟨rfl, fun T xs o hko => by
              simp only [Mem.add] at hko
              split at hko
              · cases hko
              · exact ⟨T, xs, o, hko, rfl⟩⟩
            refine ⟨φ', r1.write (.inr rfl) (o' := .var (cs.set idx (.sl i))) hj' (.inl ⟨cs, hj', q1'⟩) (fun _ _ => rfl) rfl rfl rfl rfl ?_ (fun k hk => ?_) (fun T xs ow e => by cases e) (fun _ _ => ⟨cs, rfl⟩) (fun K V es e => by cases e)⟩
            · exact ⟨b', arr, E, lo, hi, q1', q2, (hch φ' m.objs q3' r2).keep fun k _ => hk k, q4', q5'⟩
            · rcases ids_set k hk with hk | hk
              · exact r1.objids j _ hj' k hk
              · simp [Ck.ids] at hk; subst hk; exact r3
          · cases hs
      · cases hs
    · cases hs

def renAll : List (Loc × Ty × Nat) → St → Option (Bool × St)
  | [], s => some (true, s)
  | (t, T, i) :: r, s => (match renOne s t T i with
    | some (b, s') => (match renAll r s' with
      | some (c, s'') => some (b && c, s'')
      | none => none)
    | none => none)

theorem Rel.renAll : ∀ (l : List (Loc × Ty × Nat)) {φ : Nat → Place} {s s' : St}, Rel w0 F φ s a w → Sx.renAll l s = some (true, s') → ∃ φ', Rel w0 F φ' s' a w
  | [], φ, s, s', h, hs => by simp only [Sx.renAll, Option.some.injEq, Prod.mk.injEq, true_and] at hs; subst hs; exact ⟨φ, h⟩
  | (t, T, i) :: r, φ, s, s', h, hs => by
    simp only [Sx.renAll] at hs
    split at hs
    · next b s1 h1 =>
      split at hs
      · next c s2 h2 =>
        simp only [Option.some.injEq, Prod.mk.injEq, Bool.and_eq_true] at hs
        obtain ⟨⟨rfl, rfl⟩, rfl⟩ := hs
        obtain ⟨φ1, r1⟩ := h.renOne h1
        exact Rel.renAll r r1 h2
      · cases hs
    · cases hs

/-- The tuple that tells a state, if the state has the shape. -/
def Shape.dec (sh : Shape) (s : St) : Option (Bool × sh.den) :=
  match Nat.beq s.n sh.n && s.mem.tmps.isEmpty with
  | true => (match renAll sh.ren (sh.cut s) with
    | some (b, s') => (match getObjs s'.mem.objs sh.objs () with
      | some d => (match getSlots s'.fr sh.slots d with
        | some x => some (b, x)
        | none => none)
      | none => none)
    | none => none)
  | false => none

theorem renOne_n {l : Loc} {T : Ty} {i : Nat} {b : Bool} (hs : renOne s l T i = some (b, s')) : s'.n = s.n := by
  unfold renOne at hs
  split at hs
  · split at hs
    · split at hs
      · cases hs; rfl
      · split at hs
        · split at hs
          · cases hs; rfl
          · cases hs
        · cases hs
    · cases hs
  · split at hs
    · split at hs
      · split at hs
        · cases hs; rfl
        · split at hs
          · cases hs; rfl
          · cases hs
      · cases hs
    · cases hs

theorem renAll_n : ∀ (l : List (Loc × Ty × Nat)) {s s' : St} {b : Bool}, renAll l s = some (b, s') → s'.n = s.n
  | [], s, s', b, hs => by simp only [renAll, Option.some.injEq, Prod.mk.injEq] at hs; rw [hs.2]
  | (t, T, i) :: r, s, s', b, hs => by
    simp only [renAll] at hs
    split at hs
    · next b s1 h1 =>
      split at hs
      · next c s2 h2 =>
        simp only [Option.some.injEq, Prod.mk.injEq] at hs
        obtain ⟨_, rfl⟩ := hs
        rw [renAll_n r h2, renOne_n h1]
      · cases hs
    · cases hs

theorem renOne_tmps {l : Loc} {T : Ty} {i : Nat} {b : Bool} (hs : renOne s l T i = some (b, s')) : s'.mem.tmps = s.mem.tmps := by
  have hin : ∀ {c : Ck} {b : Bool} {m : Mem}, renIn s c T i = some (b, m) → m.tmps = s.mem.tmps := fun {c b m} h => by
    unfold renIn at h
    split at h
    · next b k xs _ =>
      split at h
      · cases h
      · cases h; cases k <;> rfl
    · cases h
  unfold renOne at hs
  split at hs
  · split at hs
    · split at hs
      · cases hs; rfl
      · split at hs
        · next h =>
          split at hs
          · cases hs; exact hin h
          · cases hs
        · cases hs
    · cases hs
  · split at hs
    · split at hs
      · split at hs
        · cases hs; rfl
        · split at hs
          · next h => cases hs; exact (hin h : _)
          · cases hs
      · cases hs
    · cases hs

theorem renAll_tmps : ∀ (l : List (Loc × Ty × Nat)) {s s' : St} {b : Bool}, renAll l s = some (b, s') → s'.mem.tmps = s.mem.tmps
  | [], s, s', b, hs => by simp only [renAll, Option.some.injEq, Prod.mk.injEq] at hs; rw [hs.2]
  | (t, T, i) :: r, s, s', b, hs => by
    simp only [renAll] at hs
    split at hs
    · next b s1 h1 =>
      split at hs
      · next c s2 h2 =>
        simp only [Option.some.injEq, Prod.mk.injEq] at hs
        obtain ⟨_, rfl⟩ := hs
        rw [renAll_tmps r h2, renOne_tmps h1]
      · cases hs
    · cases hs

theorem Rel.dec (h : Rel w0 F φ s a w) {sh : Shape} (hpin : ∀ p ∈ F.pin, sh.holds p.1 = true) {x : sh.den} (hx : sh.dec s = some (true, x)) : ∃ φ', Rel w0 F φ' (sh.enc x) a w := by
  unfold Shape.dec at hx
  split at hx
  · next hn =>
    obtain ⟨hn, htm⟩ := Bool.and_eq_true_iff.1 hn
    have hn := Nat.eq_of_beq_eq_true hn
    have htm : s.mem.tmps = [] := List.isEmpty_iff.1 htm
    split at hx
    · next b s1 h1 =>
      split at hx
      · next d hd =>
        split at hx
        · next y hy =>
          obtain ⟨hb, hx⟩ := Prod.mk.inj (Option.some.inj hx)
          obtain rfl : y = x := hx
          subst hb
          obtain ⟨φ', r1⟩ := (h.cut sh hpin).renAll _ h1
          have ht1 := renAll_tmps _ h1
          obtain ⟨e1, e2⟩ := getSlots_enc _ _ _ hy
          obtain ⟨e3, e4⟩ := getObjs_enc _ _ _ hd
          refine ⟨φ', r1.sub ?_ (fun t => ?_) (fun i => ?_) Shape.enc_wf (fun i hi => by rw [ht1, show (sh.cut s).mem.tmps = s.mem.tmps from rfl, htm] at hi; cases hi) (fun p hp => ?_)⟩
          · have := renAll_n _ h1
            simp only [Shape.enc]
            rw [this]
            exact hn.symm
          · simp only [Shape.enc]
            rcases lookSV_spec (encSlots sh.slots y).1 t with h | h
            · exact .inr h
            · exact .inl (e2 _ h).symm
          · simp only [Shape.enc]
            rw [e1]
            rcases lookOb_spec (encObjs sh.objs d).1 i with h | ⟨o, h1, h2⟩
            · exact .inr h
            · rw [h1]; exact .inl (e4 _ h2).symm
          · have h0 := memB_iff.1 (hpin p hp)
            have h1 := (List.mem_filter.1 h0).1
            refine memB_iff.2 (List.mem_append_left _ (List.mem_append_right _ ?_))
            rwa [encObjs_ids]
        · cases hx
      · cases hx
    · cases hx
  · cases hx

end
end Go.Sx
