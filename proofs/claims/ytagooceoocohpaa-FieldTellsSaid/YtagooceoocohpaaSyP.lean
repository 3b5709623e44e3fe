/-
  One operation on abstract states: what it comes to, that it is sound.
-/
import Derived.Test.YtagooceoocohpaaSyT
set_option linter.unusedVariables false
namespace Go.Sx

structure Env where
  P : Program
  Cs : List Ctr

def findC : List Ctr → FuncId → Option Ctr
  | [], _ => none
  | c :: r, K => if c.K = K then some c else findC r K

def Env.ok (E : Env) : Prop := ∀ c ∈ E.Cs, c.ok E.P

theorem findC_mem : ∀ {l : List Ctr} {K : FuncId} {c : Ctr}, findC l K = some c → c ∈ l ∧ c.K = K
  | [], _, _, h => by cases h
  | d :: r, K, c, h => by
    unfold findC at h
    split at h
    · next e => simp at h; subst h; exact ⟨by simp, e⟩
    · obtain ⟨h1, h2⟩ := findC_mem h; exact ⟨by simp [h1], h2⟩

/-! ### Operands -/

def constSV : Value → SV
  | .int k n => .sc (.int k n)
  | .bool b => .sc (.bool b)
  | .string s => .sc (.str s)
  | .pointer none => .sc .nilp
  | .slice none 0 0 => .sc .nils
  | .map none => .sc .nilm
  | .nilFunc => .sc .nilf
  | _ => .none

def St.opv (s : St) : Operand → SV
  | .tmp t => s.fr t
  | .const v => constSV v
  | .global _ => .none
  | .func f => .sc (.fn f)

theorem constSV_R {φ m} (v : Value) : (constSV v).R φ m v ∧ (constSV v).ids = [] := by
  unfold constSV
  split <;> simp [SV.R, Ck.R, SV.ids, Ck.ids]

theorem Rel.opv {w0 F φ s a w} (h : Rel w0 F φ s a w) (x : Operand) : (s.opv x).R φ s.mem.objs (a.eval x) ∧ ∀ i ∈ (s.opv x).ids, s.mem.used i = true := by
  cases x with
  | tmp t => exact ⟨h.fr t, h.frids t⟩
  | const v => obtain ⟨h1, h2⟩ := constSV_R (φ := φ) (m := s.mem.objs) v; exact ⟨h1, by simp [St.opv, h2]⟩
  | global g => exact ⟨trivial, by simp [St.opv, SV.ids]⟩
  | func f => exact ⟨rfl, by simp [St.opv, SV.ids, Ck.ids]⟩

/-! ### Kinds of operations -/

inductive Cl where
  | pure
  | read
  | new
  | call (C : Ctr)
  | store
  | append
  | copy
  | other

def clOf (E : Env) (o : Op) : Cl :=
  match o with
  | .move _ | .assign _ | .pick _ _ _ | .binOp _ _ _ _ _ | .unOp _ _ _ | .extract _ _ | .field _ _ _ | .index _ _ _ | .fieldAddr _ _ _ | .build _ _ | .makeFunc _ _ _ | .nilCheck _ => .pure
  | .convert s d _ => (match E.P.underlying d, E.P.underlying s with
    | some (.slice _), _ => .new
    | some .string, some (.slice _) => .read
    | _, _ => .pure)
  | .load _ _ => .read
  | .indexAddr t _ _ => (match E.P.underlying t with | some (.slice _) => .read | _ => .pure)
  | .slice t _ _ _ _ => (match E.P.underlying t with | some (.slice _) => .read | _ => .pure)
  | .alloc _ | .box _ _ | .buildSlice _ _ _ | .makeSlice _ _ _ => .new
  | .makeMap _ none => .new
  | .store _ _ _ => .store
  | .call { callee := .builtin .len, args := _, argTypes } => (match (argTypes[0]?).bind E.P.underlying with | some (.slice _) => .read | _ => .pure)
  | .call { callee := .builtin .min, args := _, argTypes := _ } | .call { callee := .builtin .max, args := _, argTypes := _ } => .pure
  | .call { callee := .builtin .append, args := _, argTypes := _ } => .append
  | .call { callee := .builtin .copy, args := _, argTypes := _ } => .copy
  | .call { callee := .value (.func K), args := _, argTypes := _ } => (match findC E.Cs K with | some C => .call C | none => .other)
  | _ => .other

def callArgs : Op → List Operand
  | .call c => c.args.toList
  | _ => []

/-- The names of what an operation makes. -/
def nid (o : Oper) : Nat := match o.dst with | some d => d * 64 | none => 1000000007

def opIds (ρ : Operand → SV) (o : Oper) : List Nat := o.op.operands.toList.flatMap fun x => (ρ x).ids

def viewIds (V : Nat → Option AObj) (ids : List Nat) : List Nat := ids ++ ids.flatMap fun i => match V i with | some ob => ob.ids | none => []

def inAll (l al : List Nat) : Bool := l.all fun i => al.contains i

/-- The objects that an operation writes. -/
def wrIds (ρ : Operand → SV) : Op → List Nat
  | .store _ p _ => (ρ p).ids
  | .call { callee := .builtin .append, args, argTypes := _ } => (match args.toList with | x :: _ => (ρ x).ids | [] => [])
  | .call { callee := .builtin .copy, args, argTypes := _ } => (match args.toList with | x :: _ => (ρ x).ids | [] => [])
  | _ => []

/-- The objects that an operation looks at. -/
def rdIds (E : Env) (s : St) (o : Oper) : List Nat := match clOf E o.op with
  | .pure => []
  | .new => []
  | .other => []
  | .store => wrIds s.opv o.op
  | _ => opIds s.opv o

/-- The names that its outcome may speak of. -/
def seeIds (E : Env) (s : St) (o : Oper) : List Nat := opIds s.opv o ++ (rdIds E s o).flatMap fun i => match s.mem.objs i with | some ob => ob.ids | none => []

/-- Behind an operation that writes nothing: its value into its slot, its new objects into memory. -/
def fin (E : Env) (s : St) (o : Oper) (v : SV) (adds : List (Nat × AObj)) : Option St :=
  match addAll s.mem adds with
  | some m =>
    let al := seeIds E s o
    if inAll v.ids (al ++ adds.map (·.1)) = true ∧ inAll (adds.flatMap fun p => p.2.ids) al = true then
      match o.dst with
      | some d => if d < s.n then some { fr := fun t => if t = d then v else s.fr t, n := s.n, mem := m } else none
      | none => some { s with mem := m }
    else none
  | none => none

def putD (s : St) (dst : Option Tmp) (v : SV) : Option St :=
  match dst with
  | some d => if d < s.n then some (s.put d v) else none
  | none => some s

/-- What an operation that writes nothing comes to. -/
def prn (E : Env) (s : St) (o : Oper) : Option (SV × List (Nat × AObj)) :=
  match clOf E o.op with
  | .pure => (match pureOp E.P s.opv o.op with | some (true, v) => some (v, []) | _ => none)
  | .read => (match readOp E.P s.opv s.mem.objs o.op with | some (true, v) => some (v, []) | _ => none)
  | .new => (match newOp E.P s.opv s.mem.objs o.op with | some (true, ob) => some (ob.refTo (nid o), [(nid o, ob)]) | _ => none)
  | .call C => (match decPTs s.mem.objs C.ins ((callArgs o.op).map s.opv) with
    | some (true, x) => (match C.f x with
      | some y => let u := encPTs (nid o + 1) C.outs y; some (resSV u.1, u.2.1)
      | none => none)
    | _ => none)
  | _ => none

/-- An operation that writes. -/
def stepW (E : Env) (s : St) (o : Oper) : Option St :=
  match clOf E o.op with
  | .store => (match storeOp E.P s.opv s.mem.objs o.op with
    | some (true, i, ob) => if inAll ob.ids (seeIds E s o) = true then putD { s with mem := s.mem.set i ob } o.dst (.tup []) else none
    | _ => none)
  | .append => (match appendOp E.P s.opv s.mem.objs o.op with
    | some (true, i, ob) => if s.mem.used (nid o) = false then putD { s with mem := (s.mem.del i).add (nid o) ob } o.dst (.sc (.sl (nid o))) else none
    | _ => none)
  | .copy => (match copyOp E.P s.opv s.mem.objs o.op with
    | some (true, r, i, ob) => if inAll ob.ids (seeIds E s o) = true then putD { s with mem := s.mem.set i ob } o.dst (.sc (.int .i64 r)) else none
    | _ => none)
  | _ => none

def step (E : Env) (s : St) (o : Oper) : Option St :=
  match clOf E o.op with
  | .store => stepW E s.clearT o
  | .append => stepW E s.clearT o
  | .copy => stepW E s.clearT o
  | .other => none
  | _ => (match prn E s o with
    | some (v, adds) => fin E s o v adds
    | none => none)

section
variable {E : Env} {φ : Nat → Place} {s s' : St} {w0 : World} {F : Fp} {a : Act} {w : World}

theorem clOf_call {op : Op} {C : Ctr} (h : clOf E op = .call C) : ∃ args at_, op = .call { callee := .value (.func C.K), args, argTypes := at_ } ∧ findC E.Cs C.K = some C := by
  cases op with
  | call c =>
    obtain ⟨callee, args, at_⟩ := c
    cases callee with
    | value f =>
      cases f with
      | func K =>
        simp only [clOf] at h
        split at h
        · next C' hC => cases h; obtain ⟨_, e⟩ := findC_mem hC; subst e; exact ⟨args, at_, rfl, hC⟩
        · cases h
      | _ => cases h
    | invoke _ _ => cases h
    | builtin b =>
      cases b <;> first | (cases h; done) | skip
      simp only [clOf] at h
      split at h <;> cases h
  | convert s d x => simp only [clOf] at h; split at h <;> cases h
  | indexAddr t x i => simp only [clOf] at h; split at h <;> cases h
  | slice t x l h' m => simp only [clOf] at h; split at h <;> cases h
  | makeMap t r => cases r <;> cases h
  | _ => cases h

/-- What is to hold behind one operation. -/
def After (P : Program) (w0 : World) (F : Fp) (s' : St) (a : Act) (w : World) (o : Oper) : Prop :=
  ∀ (K : Act → World → Prop) (Q : Exit → Act → World → Prop), (∀ φ' a' w', Rel w0 F φ' s' a' w' → K a' w') → o.wp P a w K Q

theorem inAll_spec {l al : List Nat} (h : inAll l al = true) : ∀ i ∈ l, i ∈ al := fun i hi => by
  have := List.all_eq_true.1 h i hi
  simpa using this

theorem Rel.viewIds (h : Rel w0 F φ s a w) (o : Oper) : ∀ i ∈ Sx.viewIds s.mem.objs (opIds s.opv o), s.mem.used i = true := by
  intro i hi
  have hop : ∀ i ∈ opIds s.opv o, s.mem.used i = true := fun i hi => by
    obtain ⟨x, _, hx⟩ := List.mem_flatMap.1 hi
    exact (h.opv x).2 i hx
  rcases List.mem_append.1 hi with hi | hi
  · exact hop i hi
  · obtain ⟨j, hj, hij⟩ := List.mem_flatMap.1 hi
    cases hm : s.mem.objs j with
    | none => simp [hm] at hij
    | some ob => simp [hm] at hij; exact h.objids j ob hm i hij

theorem wrIds_op {ρ : Operand → SV} {o : Oper} : ∀ i ∈ wrIds ρ o.op, i ∈ opIds ρ o := by
  intro i hi
  unfold opIds
  rw [List.mem_flatMap]
  unfold wrIds at hi
  split at hi
  · next p _ e => exact ⟨p, by rw [e]; simp [Op.operands], hi⟩
  · next args _ e =>
    split at hi
    · next x r ex => exact ⟨x, by rw [e]; simp only [Op.operands, Call.operands]; simp only [ex, List.mem_cons, true_or, Array.toList_append, List.mem_append, or_true], hi⟩
    · cases hi
  · next args _ e =>
    split at hi
    · next x r ex => exact ⟨x, by rw [e]; simp only [Op.operands, Call.operands]; simp only [ex, List.mem_cons, true_or, Array.toList_append, List.mem_append, or_true], hi⟩
    · cases hi
  · cases hi

theorem rdIds_op {E : Env} {s : St} {o : Oper} : ∀ i ∈ rdIds E s o, i ∈ opIds s.opv o := by
  intro i hi
  unfold rdIds at hi
  split at hi
  · cases hi
  · cases hi
  · cases hi
  · exact wrIds_op i hi
  · exact hi

theorem seeIds_view {E : Env} {s : St} {o : Oper} : ∀ i ∈ seeIds E s o, i ∈ Sx.viewIds s.mem.objs (opIds s.opv o) := by
  intro i hi
  rcases List.mem_append.1 hi with hi | hi
  · exact List.mem_append_left _ hi
  · obtain ⟨j, hj, hij⟩ := List.mem_flatMap.1 hi
    exact List.mem_append_right _ (List.mem_flatMap.2 ⟨j, rdIds_op j hj, hij⟩)

theorem Rel.seeIds (h : Rel w0 F φ s a w) (o : Oper) : ∀ i ∈ Sx.seeIds E s o, s.mem.used i = true := fun i hi => h.viewIds o i (seeIds_view i hi)

theorem addAll_used : ∀ {m m' : Mem} {l : List (Nat × AObj)}, addAll m l = some m' → (∀ i, m.used i = true → m'.used i = true) ∧ ∀ p ∈ l, m'.used p.1 = true
  | m, m', [], h => by simp [addAll] at h; subst h; exact ⟨fun i hi => hi, by simp⟩
  | m, m', (i, o) :: r, h => by
    unfold addAll at h
    split at h
    · obtain ⟨h1, h2⟩ := addAll_used h
      have hi : m'.used i = true := h1 i (by simp [Mem.add])
      refine ⟨fun j hj => h1 j (by simp only [Mem.add]; split <;> simp_all), fun p hp => ?_⟩
      rcases List.mem_cons.1 hp with rfl | hp
      · exact hi
      · exact h2 p hp
    · cases h

theorem Rel.putD {dst : Option Tmp} {v : SV} {val : Value} (h : Rel w0 F φ s a w) (hv : v.R φ s.mem.objs val) (hids : ∀ i ∈ v.ids, s.mem.used i = true) (hs : putD s dst v = some s') : Rel w0 F φ s' (a.put dst val) w := by
  unfold Sx.putD at hs
  split at hs
  · split at hs
    · next hd => simp at hs; subst hs; exact h.put hd hv hids
    · cases hs
  · simp at hs; subst hs; exact h

theorem wp_value {o : Oper} {val : Value} {w' : World} (hrun : (execOp a.eval o).run E.P w = .ok (.value val) w') (hR : ∃ φ', Rel w0 F φ' s' (a.put o.dst val) w') : After E.P w0 F s' a w o := by
  intro K Q hK
  unfold Oper.wp
  rw [hrun]
  obtain ⟨φ', h⟩ := hR
  exact hK φ' _ _ h

theorem fin_spec {o : Oper} {v : SV} {adds : List (Nat × AObj)} (h : fin E s o v adds = some s') :
    ∃ m, addAll s.mem adds = some m ∧ (∀ i ∈ v.ids, i ∈ seeIds E s o ∨ i ∈ adds.map (·.1)) ∧ (∀ i ∈ adds.flatMap (fun p => p.2.ids), i ∈ seeIds E s o) ∧
      putD { s with mem := m } o.dst v = some s' := by
  unfold fin at h
  split at h
  · next m hm =>
    simp only at h
    split at h
    · next hc =>
      refine ⟨m, hm, fun i hi => List.mem_append.1 (inAll_spec hc.1 i hi), inAll_spec hc.2, ?_⟩
      unfold putD
      cases hd : o.dst with
      | none => rw [hd] at h; exact h
      | some d => rw [hd] at h; exact h
    · cases h
  · cases h

theorem stepW_sound {o : Oper} (h : Rel w0 F φ s a w) (hT : s.mem.tmps = []) (hs : stepW E s o = some s') : After E.P w0 F s' a w o := by
  have hρ := fun x => (h.opv x).1
  have hids := fun x => (h.opv x).2
  unfold stepW at hs
  split at hs
  · -- store
    split at hs
    · next i ob ho =>
      split at hs
      · next hc =>
        obtain ⟨w', g1, g2⟩ := storeOp_sound h hT hρ hids ho
        intro K Q hK
        unfold Oper.wp
        rw [g1]
        exact hK φ _ _ (g2.putD (v := .tup []) (val := undef) (show (SV.tup []).R _ _ undef from ⟨[], rfl, trivial⟩) (by simp [SV.ids]) hs)
      · cases hs
    · cases hs
  · -- append
    split at hs
    · next i ob ho =>
      split at hs
      · next hc =>
        obtain ⟨val, w', p, g1, g2, g3⟩ := appendOp_sound h hT hρ hc ho
        exact wp_value g1 ⟨_, g2.putD g3 (by simp [SV.ids, Ck.ids, Mem.add]) hs⟩
      · cases hs
    · cases hs
  · -- copy
    split at hs
    · next r i ob ho =>
      split at hs
      · next hc =>
        obtain ⟨w', g1, g2⟩ := copyOp_sound h hT hρ ho
        exact wp_value g1 ⟨_, g2.putD (v := .sc (.int .i64 r)) (show (SV.sc (.int .i64 r)).R _ _ (.int .i64 r) from rfl) (by simp [SV.ids, Ck.ids]) hs⟩
      · cases hs
    · cases hs
  · cases hs

theorem step_sound (hE : E.ok) {o : Oper} (h : Rel w0 F φ s a w) (hs : step E s o = some s') : After E.P w0 F s' a w o := by
  have hρ := fun x => (h.opv x).1
  have hids := fun x => (h.opv x).2
  have hview := h.seeIds (E := E) o
  unfold step at hs
  split at hs
  · exact stepW_sound h.clearT St.clearT_tmps hs
  · exact stepW_sound h.clearT St.clearT_tmps hs
  · exact stepW_sound h.clearT St.clearT_tmps hs
  · cases hs
  · split at hs
    · next v adds hp =>
      obtain ⟨m, hm, hv1, hv2, hput⟩ := fin_spec hs
      have hused := addAll_used hm
      have hvused : ∀ i ∈ v.ids, m.used i = true := fun i hi => by
        rcases hv1 i hi with hi | hi
        · exact hused.1 i (hview i hi)
        · obtain ⟨p, hp, rfl⟩ := List.mem_map.1 hi; exact hused.2 p hp
      unfold prn at hp
      split at hp
      · -- pure
        split at hp
        · next v' ho =>
          simp at hp; obtain ⟨rfl, rfl⟩ := hp
          simp [addAll] at hm; subst hm
          obtain ⟨val, g1, g2⟩ := pureOp_sound (w := w) hρ ho
          exact wp_value g1 ⟨φ, h.putD g2 hvused hput⟩
        · cases hp
      · -- read
        split at hp
        · next v' ho =>
          simp at hp; obtain ⟨rfl, rfl⟩ := hp
          simp [addAll] at hm; subst hm
          obtain ⟨val, g1, g2⟩ := readOp_sound (w := w) hρ h.mem ho
          exact wp_value g1 ⟨φ, h.putD g2 hvused hput⟩
        · cases hp
      · -- new
        split at hp
        · next ob ho =>
          simp at hp; obtain ⟨rfl, rfl⟩ := hp
          simp only [addAll] at hm
          split at hm
          · next hi =>
            simp at hm; subst hm
            obtain ⟨val, w', p, g1, g2, g3⟩ := newOp_sound h hρ hids hi ho
            exact wp_value g1 ⟨_, g2.putD g3 hvused hput⟩
          · cases hm
        · cases hp
      · -- call
        next C hcl =>
        split at hp
        · next x hx =>
          split at hp
          · next y hy =>
            simp only [Option.some.injEq, Prod.mk.injEq] at hp
            obtain ⟨rfl, rfl⟩ := hp
            -- the operation is a call of C.K
            obtain ⟨args, at_, hop, hC⟩ := clOf_call hcl
            obtain ⟨hmem, _⟩ := findC_mem hC
            have hargs : ArgsIn w C.ins x ((callArgs o.op).map a.eval) := decPTs_deep h.mem _ _ _ _ hx (all2_mapρ hρ)
            have hvs : ((callArgs o.op).map a.eval).toArray = args.map a.eval := by rw [hop]; apply Array.toList_inj.1; simp [callArgs]
            have hbehind : ∀ rs w', Back w C.outs y rs w' → ∃ φ', Rel w0 F φ' s' (a.put o.dst (resVal rs)) w' := fun rs w' hbk => by
              obtain ⟨hold, seen, hnew⟩ := hbk
              have hg := h.grow hold
              have hN : w0.heap.size ≤ w.heap.size := h.old.size
              obtain ⟨φ', r1, f1, u1, x1⟩ := take_Ps (a := a) (w := w') hN C.outs y rs (nid o + 1) [] seen m φ s hg (fun j b hb => .inl (ownBlock.lt h hb)) hnew hm
              exact ⟨φ', r1.putD (resSV_R f1) hvused hput⟩
            have hexec : ∀ r, (callFunc C.K (args.map a.eval)).run E.P w = r → (execOp a.eval o).run E.P w = r := fun r hr => by
              unfold execOp
              rw [hop]
              simp only [resolve, Act.eval, Deferred.ofValue, Sem.run_bind, Sem.run_pure, Result.andThen_ok, invoke]
              simpa using hr
            intro K Q hK
            unfold Oper.wp
            rcases hE C hmem x y hy w _ hargs with ⟨hcf, hcall⟩ | ⟨rs, w', hcf, hbk⟩
            · rw [hvs] at hcf hcall
              rw [hexec _ hcf]
              simp only [Oper.upon_enter]
              refine hcall.mono fun e w' ⟨rs, he, hbk⟩ => ?_
              subst he
              obtain ⟨φ', r⟩ := hbehind rs w' hbk
              exact hK φ' _ _ r
            · rw [hvs] at hcf
              rw [hexec _ hcf]
              simp only [Oper.upon_value]
              obtain ⟨φ', r⟩ := hbehind rs w' hbk
              exact hK φ' _ _ r
          · cases hp
        · cases hp
      · cases hp
    · cases hs
end

end Go.Sx
