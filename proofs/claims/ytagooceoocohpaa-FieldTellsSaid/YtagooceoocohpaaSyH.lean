/-
  The operations that read memory and write none.
-/
import Derived.Test.YtagooceoocohpaaSyG
import Derived.Laws.BytesArg
import Derived.Lib.ConvBytes
set_option linter.unusedVariables false
namespace Go.Sx

/-- The part of a list that a window shows. -/
def winOf {α : Type} (xs : List α) (lo n : Int) : List α := (xs.drop lo.toNat).take n.toNat

/-- A slice's numbers, if they are bytes (or of another kind): of a list, a window, an array. -/
def intsOf (V : Nat → Option AObj) (k : IntKind) : Ck → Option (Bool × List Int)
  | .nils => some (true, [])
  | .sl i => (match V i with
    | some (.list (.int k') xs _) => if k' = k then some (true, xs) else none
    | _ => none)
  | .win i sz lo n => (match V i with
    | some (.list (.int k') xs _) => if k' = k ∧ sz = 1 then some (decide (lo.toNat + n.toNat ≤ xs.length), winOf xs lo n) else none
    | _ => none)
  | .awin i off N lo n => (match V i with
    | some (.var cs) => (match midCks cs off N with
      | some [.arr k' N' f] => if k' = k ∧ N' = N then some (true, (List.range n.toNat).map fun j => f (lo.toNat + j)) else none
      | _ => none)
    | _ => none)
  | _ => none

def readOp (P : Program) (ρ : Operand → SV) (V : Nat → Option AObj) : Op → Option (Bool × SV)
  | .load t a => (match ρ a with
    | .sc (.ptr i off) => (match V i, P.underlying t with
      | some (.var cs), some _ => (match partCk P t cs off with
        | some ms => (match svOf P t ms with | some v => some (true, v) | none => none)
        | none => none)
      | _, _ => none)
    | .sc (.pel i off n e) => (match V i, P.underlying t with
      | some (.var cs), some _ => (match midCks cs off n with
        | some [.arr k n' f] => if isAggB P t = false ∧ n' = n then some (true, .sc (.int k (f e.toNat))) else none
        | _ => none)
      | _, _ => none)
    | .sc (.pls i sz e fo) => (match V i, P.underlying t with
      | some (.list T xs _), some _ => if sz = T.size then (match partCk P t (T.enc (xs.getD e.toNat T.dflt)) fo with
        | some ms => (match svOf P t ms with | some v => some (decide (e.toNat < xs.length), v) | none => none)
        | none => none) else none
      | _, _ => none)
    | _ => none)
  | .indexAddr t x i => (match P.underlying t, ρ x, ρ i with
    | some (.slice e), .sc (.sl o), .sc (.int _ j) => (match V o, P.underlying e with
      | some (.list T xs _), some _ => if P.cellsOf e = T.size then some (decide (0 ≤ j) && decide (j < xs.length), .sc (.pls o T.size j 0)) else none
      | _, _ => none)
    | some (.slice e), .sc (.win o sz lo n), .sc (.int _ j) => (match P.underlying e with
      | some _ => if P.cellsOf e = sz then some (decide (0 ≤ j) && decide (j < n), .sc (.pls o sz (lo + j) 0)) else none
      | _ => none)
    | some (.slice e), .sc (.awin o off N lo n), .sc (.int _ j) => (match P.underlying e with
      | some _ => if P.cellsOf e = 1 then some (decide (0 ≤ j) && decide (j < n), .sc (.pel o off N (lo + j))) else none
      | _ => none)
    | _, _, _ => none)
  | .slice t x lo hi mx => (match P.underlying t, mx with
    | some (.slice e), none => if (P.underlying e).isSome then (match ρ x, lo.map ρ, hi.map ρ with
      | .sc (.sl o), some (.sc (.int _ l)), none => (match V o with
        | some (.list T xs _) => if P.cellsOf e = T.size then some (decide (0 ≤ l) && decide (l ≤ xs.length), .sc (.win o T.size l (xs.length - l))) else none
        | _ => none)
      | .sc (.sl o), none, some (.sc (.int _ h)) => (match V o with
        | some (.list T xs _) => if P.cellsOf e = T.size then some (decide (0 ≤ h) && decide (h ≤ xs.length), .sc (.win o T.size 0 h)) else none
        | _ => none)
      | .sc (.sl o), some (.sc (.int _ l)), some (.sc (.int _ h)) => (match V o with
        | some (.list T xs _) => if P.cellsOf e = T.size then some ((decide (0 ≤ h) && decide (h ≤ xs.length)) && (decide (0 ≤ l) && decide (l ≤ h)), .sc (.win o T.size l (h - l))) else none
        | _ => none)
      | _, _, _ => none) else none
    | _, _ => none)
  | .call { callee := .builtin .len, args, argTypes } => (match args[0]?, (argTypes[0]?).bind P.underlying with
    | some x, some (.slice _) => (match ρ x with
      | .sc .nils => some (true, .sc (.int .i64 0))
      | .sc (.sl i) => (match V i with
        | some (.list _ xs _) => some (true, .sc (.int .i64 xs.length))
        | _ => none)
      | .sc (.win _ _ _ n) => some (true, .sc (.int .i64 n))
      | .sc (.awin _ _ _ _ n) => some (true, .sc (.int .i64 n))
      | _ => none)
    | _, _ => none)
  | .convert s d x => (match P.underlying s, P.underlying d, ρ x with
    | some (.slice e), some .string, .sc c => (match P.underlying e with
      | some (.int .u8) => (match intsOf V .u8 c with
        | some (b, xs) => some (b, .sc (.str (strOfNums xs)))
        | none => none)
      | _ => none)
    | _, _, _ => none)
  | _ => none

/-! ### What the model reads -/

section
variable {P : Program} {φ : Nat → Place} {m : Nat → Option AObj} {N : Nat} {F : Nat → Prop} {ρ : Operand → SV} {ev : Operand → Value} {w : World} {v : SV}

theorem run_loadVar_at {t : TypeId} {d : TypeDesc} {cs ms : List Ck} {b p fo E : Nat} {arr : Array Value} {fr : Nat × Nat} {pre l post : List Value} (hw : w.heap[b]? = some (.cells arr E fr))
    (ha : arr.toList = pre ++ l ++ post) (hp : pre.length = p) (hl : FlatR φ m cs l) (ht : P.underlying t = some d) (h : partCk P t cs fo = some ms) :
    ∃ val, (loadVar t ⟨b, p + fo, none⟩).run P w = .ok val w ∧ ValR P φ m t ms val ∧ ∀ i ∈ Cks.ids ms, i ∈ Cks.ids cs := by
  unfold partCk at h
  unfold loadVar ValR
  simp only [Sem.run_bind, run_isAgg ht, Result.andThen_ok]
  have hsz : arr.size = pre.length + l.length + post.length := by rw [← Array.length_toList, ha]; simp; omega
  split at h
  · next hag =>
    obtain ⟨h1, h2, h3⟩ := midCks_spec h hl
    simp only [hag, if_true]
    refine ⟨.agg ((l.drop fo).take (P.cellsOf t)).toArray, ?_, ⟨(l.drop fo).take (P.cellsOf t), rfl, h1⟩, h3⟩
    simp only [Sem.run_bind, run_sizeOf (info_of_underlying ht), Result.andThen_ok]
    rw [run_loadCells P hw (by omega)]
    simp only [Result.andThen_ok, Sem.run_pure]
    congr 2
    rw [ha, ← hp, ← List.drop_drop, List.append_assoc, List.drop_left, List.drop_append_of_le_length (by omega), List.take_append_of_le_length (by simp; omega)]
  · next hag =>
    split at h
    · next c hc =>
      simp at h; subst h
      obtain ⟨h1, h2, h3⟩ := midCks_spec hc hl
      have ha' : isAggB P t = false := by simpa using hag
      simp only [ha', Bool.false_eq_true, if_false]
      simp only [List.drop_eq_getElem_cons (show fo < l.length by omega), List.take_succ_cons, List.take_zero] at h1
      refine ⟨l[fo]'(by omega), ?_, ⟨c, rfl, h1.single⟩, h3⟩
      have hc : w.cell? ⟨b, p + fo, none⟩ = some (l[fo]'(by omega)) := by
        rw [cell_of hw, ← Array.getElem?_toList, ha, ← hp, List.append_assoc, List.getElem?_append_right (by omega), Nat.add_sub_cancel_left, List.getElem?_append_left (by omega), List.getElem?_eq_getElem]
      simp only [run_load, hc]
    · cases h

theorem flatMap_split {T : Ty} (xs : List T.den) (e : Nat) (h : e < xs.length) :
    xs.flatMap T.cells = (xs.take e).flatMap T.cells ++ T.cells (xs.getD e T.dflt) ++ (xs.drop (e + 1)).flatMap T.cells := by
  have e1 : xs = xs.take e ++ (xs[e] :: xs.drop (e + 1)) := by rw [← List.drop_eq_getElem_cons h, List.take_append_drop]
  have e2 : xs.getD e T.dflt = xs[e] := by simp [List.getD, List.getElem?_eq_getElem h]
  rw [e2, show xs.flatMap T.cells = (xs.take e ++ (xs[e] :: xs.drop (e + 1))).flatMap T.cells from congrArg (fun l => List.flatMap T.cells l) e1, List.flatMap_append, List.flatMap_cons, List.append_assoc]

theorem flatMap_length {T : Ty} : ∀ (xs : List T.den), (xs.flatMap T.cells).length = xs.length * T.size
  | [] => by simp
  | x :: xs => by simp [flatMap_length xs, Ty.cells_length, Nat.add_mul, Nat.add_comm]

/-- What a window's cells are. -/
theorem list_cells {i : Nat} {T : Ty} {xs : List T.den} {own : Bool} (h : ObjOk φ m N F w i (.list T xs own)) (hne : xs ≠ []) :
    ∃ b o arr E fr pre post, (φ i).base = some ⟨b, o, none⟩ ∧ w.heap[b]? = some (.cells arr E fr) ∧ arr.toList = pre ++ xs.flatMap T.cells ++ post ∧ pre.length = o := by
  rcases h with ⟨h1, _⟩ | ⟨b, o, arr, E, lo, hi, pre, post, h1, h2, h3, h4, _⟩
  · exact absurd h1 hne
  · exact ⟨b, o, arr, E, (lo, hi), pre, post, h1, h2, h3, h4⟩

theorem load_sound {t : TypeId} {a : Operand} (hρ : ∀ x, (ρ x).R φ m (ev x)) (hm : ∀ i o, m i = some o → ObjOk φ m N F w i o) (h : readOp P ρ m (.load t a) = some (true, v)) :
    ∃ val, (Instr.loadAt t (ev a)).run P w = .ok val w ∧ v.R φ m val := by
  have ha := hρ a
  simp only [readOp] at h
  split at h
  · next i off e1 =>
    rw [e1] at ha
    obtain ⟨b, hb, el⟩ := R_ptr ha
    rw [el]
    split at h
    · next cs d hV hu =>
      split at h
      · next ms hp =>
        split at h
        · next v' hv =>
          simp at h; subst h
          obtain ⟨b', arr, E, lo, hi, q1, q2, q3, q4, q5⟩ := hm i _ hV
          rw [hb] at q1; simp at q1; subst q1
          obtain ⟨val, g1, g2, _⟩ := run_loadVar_at (pre := []) (post := []) q2 (by simp) rfl q3 hu hp
          refine ⟨val, ?_, svOf_R hv g2⟩
          simpa [Instr.loadAt, Instr.sureAddr] using g1
        · cases h
      · cases h
    · cases h
  · next i off n e e1 =>
    rw [e1] at ha
    obtain ⟨b, hb, el, h0, hlt⟩ := ha
    simp at el
    rw [el]
    split at h
    · next cs d hV hu =>
      split at h
      · next k n' f hmid =>
        split at h
        · next hh =>
          obtain ⟨hag, rfl⟩ := hh
          simp at h; subst h
          obtain ⟨b', arr, E, lo, hi, q1, q2, q3, q4, q5⟩ := hm i _ hV
          rw [hb] at q1; simp at q1; subst q1
          obtain ⟨h1, h2, h3⟩ := midCks_spec hmid q3
          have e2 := arr_single (v := .nilFunc) rfl h1
          refine ⟨.int k (f e.toNat), ?_, rfl⟩
          have hlt' : e.toNat < n' := by omega
          have hcell : w.cell? ⟨b, off + e.toNat, none⟩ = some (.int k (f e.toNat)) := by
            rw [cell_of q2, ← Array.getElem?_toList]
            have := congrArg (fun l => l[e.toNat]?) e2
            simp [hlt', List.getElem?_drop] at this
            simpa using this
          simp [Instr.loadAt, Instr.sureAddr, loadVar, run_isAgg hu, hag, hcell]
        · cases h
      · cases h
    · cases h
  · next i sz e fo e1 =>
    rw [e1] at ha
    obtain ⟨b, o, hb, el, h0⟩ := R_pls ha
    rw [el]
    split at h
    · next T xs own d hV hu =>
      split at h
      · next hsz =>
        subst hsz
        split at h
        · next ms hp =>
          split at h
          · next v' hv =>
            simp only [Option.some.injEq, Prod.mk.injEq, decide_eq_true_eq] at h
            obtain ⟨hlt, rfl⟩ := h
            obtain ⟨b', o', arr, E, fr, pre, post, q1, q2, q3, q4⟩ := list_cells (hm i _ hV) (by intro e; subst e; simp at hlt)
            rw [hb] at q1; simp at q1; obtain ⟨rfl, rfl⟩ := q1
            rw [flatMap_split xs e.toNat hlt] at q3
            have hlen : (pre ++ (xs.take e.toNat).flatMap T.cells).length = o + e.toNat * T.size := by
              rw [List.length_append, q4, flatMap_length, List.length_take, Nat.min_eq_left (by omega)]
            obtain ⟨val, g1, g2, _⟩ := run_loadVar_at (pre := pre ++ (xs.take e.toNat).flatMap T.cells) (post := (xs.drop (e.toNat + 1)).flatMap T.cells ++ post) q2
              (by rw [q3]; simp) hlen (FlatR.enc (φ := φ) (m := m) T _) hu hp
            refine ⟨val, ?_, svOf_R hv g2⟩
            simpa [Instr.loadAt, Instr.sureAddr] using g1
          · cases h
        · cases h
      · cases h
    · cases h
  · cases h

theorem R_sl {i : Nat} {T : Ty} {xs : List T.den} {own : Bool} {val : Value} (hm : m i = some (.list T xs own)) (h : (SV.sc (.sl i)).R φ m val) : val = .slice (φ i).base xs.length (φ i).cap := by
  simp only [SV.R, Ck.R, hm] at h
  simpa using h

theorem indexAddrS_sound {t : TypeId} {x i : Operand} (hρ : ∀ x, (ρ x).R φ m (ev x)) (hm : ∀ i o, m i = some o → ObjOk φ m N F w i o) (h : readOp P ρ m (.indexAddr t x i) = some (true, v)) :
    ∃ val, (Instr.indexAt t (ev x) (ev i)).run P w = .ok val w ∧ v.R φ m val := by
  have hx := hρ x; have hi := hρ i
  have tiny : ∀ (e : TypeId), (match (TypeDesc.slice e) with | .array .. => true | _ => false) = false := fun _ => rfl
  simp only [readOp] at h
  split at h
  · next e o k j e1 e2 e3 =>
    rw [e2] at hx; rw [e3] at hi
    rw [R_int hi]
    split at h
    · next T xs own d hV hu =>
      rw [R_sl hV hx]
      split at h
      · next hs =>
        simp only [Option.some.injEq, Prod.mk.injEq] at h
        obtain ⟨hc, rfl⟩ := h
        obtain ⟨h0, h1⟩ := andB hc
        obtain ⟨b, of, arr, E, fr, pre, post, q1, q2, q3, q4⟩ := list_cells (hm o _ hV) (by intro e; subst e; simp at h1; omega)
        refine ⟨.pointer (some ⟨b, of + j.toNat * T.size, none⟩), ?_, ⟨b, of, q1, rfl, h0⟩⟩
        simp only [Instr.indexAt, asIntOf, Sem.run_bind, Sem.run_pure, Result.andThen_ok, run_underlying e1, q1]
        rw [if_pos ⟨h0, h1⟩]
        simp only [Sem.run_bind, run_sizeOf (info_of_underlying hu), Result.andThen_ok, hs, addr_add, Sem.run_pure]
      · cases h
    · cases h
  · next e o sz lo n k j e1 e2 e3 =>
    rw [e2] at hx; rw [e3] at hi
    rw [R_int hi]
    obtain ⟨a, c, ea, hc1, hlo, hn0, hcap, hd⟩ := hx
    simp at ea; rw [ea]
    split at h
    · next d hu =>
      split at h
      · next hs =>
        simp only [Option.some.injEq, Prod.mk.injEq] at h
        obtain ⟨hc, rfl⟩ := h
        obtain ⟨h0, h1⟩ := andB hc
        rcases hd with hd | ⟨b, of, hb, rfl⟩
        · omega
        · refine ⟨.pointer (some ⟨b, of + lo.toNat * sz + j.toNat * sz, none⟩), ?_, ⟨b, of, hb, ?_, by omega⟩⟩
          · simp only [Instr.indexAt, asIntOf, Sem.run_bind, Sem.run_pure, Result.andThen_ok, run_underlying e1]
            rw [if_pos ⟨h0, by omega⟩]
            simp only [Sem.run_bind, run_sizeOf (info_of_underlying hu), Result.andThen_ok, hs, addr_add, Sem.run_pure]
          · rw [show (lo + j).toNat = lo.toNat + j.toNat by omega, Nat.add_mul]
            simp [Nat.add_assoc]
      · cases h
    · cases h
  · next e o off Nn lo n k j e1 e2 e3 =>
    rw [e2] at hx; rw [e3] at hi
    rw [R_int hi]
    obtain ⟨a, c, ea, hc1, hlo, hn0, hN, hd⟩ := hx
    simp at ea; rw [ea]
    split at h
    · next d hu =>
      split at h
      · next hs =>
        simp only [Option.some.injEq, Prod.mk.injEq] at h
        obtain ⟨hc, rfl⟩ := h
        obtain ⟨h0, h1⟩ := andB hc
        rcases hd with hd | ⟨_, b, hb, rfl⟩
        · omega
        · refine ⟨.pointer (some ⟨b, off + lo.toNat + j.toNat, none⟩), ?_, ⟨b, hb, ?_, by omega, by omega⟩⟩
          · simp only [Instr.indexAt, asIntOf, Sem.run_bind, Sem.run_pure, Result.andThen_ok, run_underlying e1]
            rw [if_pos ⟨h0, by omega⟩]
            simp only [Sem.run_bind, run_sizeOf (info_of_underlying hu), Result.andThen_ok, hs, addr_add, Sem.run_pure, Nat.mul_one]
          · rw [show (lo + j).toNat = lo.toNat + j.toNat by omega]
            simp [Nat.add_assoc]
      · cases h
    · cases h
  · cases h

theorem slice_sl {t e : TypeId} {o : Nat} {T : Ty} {xs : List T.den} {own : Bool} (hm : ∀ i o, m i = some o → ObjOk φ m N F w i o) (hV : m o = some (.list T xs own)) {d : TypeDesc} (hu : P.underlying t = some (.slice e)) (he : P.underlying e = some d) (hs : P.cellsOf e = T.size)
    {lo hi : Option Int} (hh : ∀ x, hi = some x → 0 ≤ x ∧ x ≤ xs.length) (hl : ∀ x, lo = some x → 0 ≤ x ∧ x ≤ hi.getD (xs.length : Int)) (k k' : IntKind) :
    ∃ val, (Instr.sliceAt t (.slice (φ o).base xs.length (φ o).cap) (lo.map (Value.int k)) (hi.map (Value.int k')) none).run P w = .ok val w ∧
      (Ck.win o T.size (lo.getD 0) (hi.getD xs.length - lo.getD 0)).R φ m [val] := by
  have hcap : xs.length ≤ (φ o).cap := by
    rcases hm o _ hV with ⟨h1, h2⟩ | ⟨b, of, arr, E, l, hi', pre, post, h1, h2, h3, h4, h5, _⟩
    · subst h1; simp
    · exact h5
  have hl0 : 0 ≤ lo.getD 0 ∧ lo.getD 0 ≤ hi.getD xs.length := by
    cases lo with
    | none => cases hi with
      | none => simp
      | some h => have := hh h rfl; simp; omega
    | some l => cases hi with
      | none => have := hl l rfl; simpa using this
      | some h => have := hl l rfl; simpa using this
  have hh0 : 0 ≤ hi.getD (xs.length : Int) ∧ hi.getD (xs.length : Int) ≤ xs.length := by
    cases hi with
    | none => simp
    | some h => have := hh h rfl; simpa using this
  have el : (lo.map Int.toNat).getD 0 = (lo.getD 0).toNat := by cases lo <;> rfl
  have eh : (hi.map Int.toNat).getD xs.length = (hi.getD (xs.length : Int)).toNat := by cases hi <;> simp
  have hrun := sliceBounds_run (P := P) (w := w) (isS := true) (len := xs.length) (cap := (φ o).cap) (lo := lo) (hi := hi) (fun x hx => ⟨(hh x hx).1, by have := (hh x hx).2; omega⟩) hl k k'
  rw [el, eh] at hrun
  clear hl hh el eh
  generalize lo.getD 0 = l at *
  generalize hi.getD (xs.length : Int) = h at *
  refine ⟨.slice (if (φ o).cap = l.toNat then (φ o).base else (φ o).base.map (·.add (l.toNat * T.size))) (h.toNat - l.toNat) ((φ o).cap - l.toNat), ?_, ?_⟩
  · simp only [Instr.sliceAt, Sem.run_bind, run_underlying hu, Result.andThen_ok, Instr.slice, hrun, run_sizeOf (info_of_underlying he), hs, Sem.run_pure]
  · refine ⟨_, _, by rw [show (h - l).toNat = h.toNat - l.toNat by omega], by omega, hl0.1, by omega, .inr (by omega), ?_⟩
    by_cases e : (φ o).cap - l.toNat = 0
    · exact .inl e
    · rcases hm o _ hV with ⟨_, h2⟩ | ⟨b, of, arr, E, l', hi', pre, post, q1, q2, q3, q4, q5, _⟩
      · omega
      · exact .inr ⟨b, of, q1, by rw [if_neg (by omega), q1]; simp [addr_add]⟩

theorem sliceS_sound {t : TypeId} {x : Operand} {lo hi mx : Option Operand} (hρ : ∀ x, (ρ x).R φ m (ev x)) (hm : ∀ i o, m i = some o → ObjOk φ m N F w i o) (h : readOp P ρ m (.slice t x lo hi mx) = some (true, v)) :
    ∃ val, (Instr.sliceAt t (ev x) (lo.map ev) (hi.map ev) (mx.map ev)).run P w = .ok val w ∧ v.R φ m val := by
  have hx := hρ x
  have hint : ∀ {y : Option Operand} {k : IntKind} {l : Int}, y.map ρ = some (.sc (.int k l)) → y.map ev = some (.int k l) := fun {y k l} e => by
    cases y with
    | none => cases e
    | some z => have := hρ z; simp at e; rw [e] at this; simp [R_int this]
  have hnone : ∀ {y : Option Operand}, y.map ρ = none → y.map ev = none := fun {y} e => by cases y <;> simp_all
  simp only [readOp] at h
  split at h
  · next e e1 =>
    split at h
    · next hsome =>
      obtain ⟨d, hd⟩ := Option.isSome_iff_exists.1 hsome
      split at h
      · next o k l e2 e3 e4 =>
        rw [e2] at hx; rw [hint e3, hnone e4]
        split at h
        · next T xs own hV =>
          rw [R_sl hV hx]
          split at h
          · next hs =>
            simp only [Option.some.injEq, Prod.mk.injEq] at h
            obtain ⟨hcc, rfl⟩ := h
            obtain ⟨val, h1, h2⟩ := slice_sl (lo := some l) (hi := none) hm hV e1 hd hs (fun _ h => by cases h) (fun _ h => by cases h; exact andB hcc) k .i64
            exact ⟨val, h1, h2⟩
          · cases h
        · cases h
      · next o k l e2 e3 e4 =>
        rw [e2] at hx; rw [hnone e3, hint e4]
        split at h
        · next T xs own hV =>
          rw [R_sl hV hx]
          split at h
          · next hs =>
            simp only [Option.some.injEq, Prod.mk.injEq] at h
            obtain ⟨hcc, rfl⟩ := h
            obtain ⟨val, h1, h2⟩ := slice_sl (lo := none) (hi := some l) hm hV e1 hd hs (fun _ h => by cases h; exact andB hcc) (fun _ h => by cases h) .i64 k
            exact ⟨val, h1, by simpa [SV.R] using h2⟩
          · cases h
        · cases h
      · next o k l k' hh e2 e3 e4 =>
        rw [e2] at hx; rw [hint e3, hint e4]
        split at h
        · next T xs own hV =>
          rw [R_sl hV hx]
          split at h
          · next hs =>
            simp only [Option.some.injEq, Prod.mk.injEq] at h
            obtain ⟨hcc, rfl⟩ := h
            obtain ⟨hc1, hc2⟩ := bool_and_true hcc
            obtain ⟨val, h1, h2⟩ := slice_sl (lo := some l) (hi := some hh) hm hV e1 hd hs (fun _ h => by cases h; exact andB hc1) (fun _ h => by cases h; exact andB hc2) k k'
            exact ⟨val, h1, h2⟩
          · cases h
        · cases h
      · cases h
    · cases h
  · cases h

theorem flatMap_int {k : IntKind} : ∀ (ys : List Int), (List.flatMap (Ty.int k).cells ys) = ys.map (Value.int k)
  | [] => rfl
  | y :: ys => congrArg (fun l => Value.int k y :: l) (flatMap_int ys)

theorem intList_cells {i : Nat} {k : IntKind} {ys : List Int} {own : Bool} (hm : ∀ i o, m i = some o → ObjOk φ m N F w i o) (hV : m i = some (.list (.int k) ys own)) (hne : ys ≠ []) :
    ∃ b o arr E fr pre post, (φ i).base = some ⟨b, o, none⟩ ∧ w.heap[b]? = some (.cells arr E fr) ∧ arr.toList = pre ++ ys.map (Value.int k) ++ post ∧ pre.length = o := by
  obtain ⟨b, o, arr, E, fr, pre, post, q1, q2, q3, q4⟩ := list_cells (hm i _ hV) hne
  exact ⟨b, o, arr, E, fr, pre, post, q1, q2, by rw [q3, flatMap_int], q4⟩

theorem winOf_length {α : Type} {ys : List α} {lo n : Int} (h : lo.toNat + n.toNat ≤ ys.length) : (winOf ys lo n).length = n.toNat := by simp [winOf]; omega

/-- Where a slice's numbers stand. -/
theorem intsOf_cells {k : IntKind} {c : Ck} {xs : List Int} {val : Value} (hm : ∀ i o, m i = some o → ObjOk φ m N F w i o) (h : intsOf m k c = some (true, xs)) (hc : (SV.sc c).R φ m val) :
    ∃ a cap, val = .slice a xs.length cap ∧ (xs = [] ∨ ∃ b o arr E fr, a = some ⟨b, o, none⟩ ∧ w.heap[b]? = some (.cells arr E fr) ∧ o + xs.length ≤ arr.size ∧ (arr.toList.drop o).take xs.length = xs.map (Value.int k)) := by
  unfold intsOf at h
  split at h
  · simp at h; subst h
    simp only [SV.R, Ck.R, List.cons.injEq, and_true] at hc
    exact ⟨_, _, hc, .inl rfl⟩
  · next i =>
    split at h
    · next k' ys0 own hV =>
      obtain ⟨ys, hys⟩ : ∃ ys : List Int, ys = ys0 := ⟨ys0, rfl⟩
      subst hys
      split at h
      · next hk =>
        subst hk
        obtain rfl : ys = xs := congrArg Prod.snd (Option.some.inj h)
        refine ⟨_, _, R_sl hV hc, ?_⟩
        by_cases hy : ys = []
        · exact .inl hy
        · obtain ⟨b, of, arr, E, fr, pre, post, q1, q2, q3, q4⟩ := intList_cells hm hV hy
          refine .inr ⟨b, of, arr, E, fr, q1, q2, ?_, ?_⟩
          · rw [← Array.length_toList, q3, ← q4]; simp
          · rw [q3, ← q4, List.append_assoc, List.drop_left, List.take_append_of_le_length (by simp), List.take_of_length_le (by simp)]
      · cases h
    · cases h
  · next i sz lo n =>
    split at h
    · next k' ys0 own hV =>
      obtain ⟨ys, hys⟩ : ∃ ys : List Int, ys = ys0 := ⟨ys0, rfl⟩
      subst hys
      split at h
      · next hk =>
        obtain ⟨rfl, rfl⟩ := hk
        obtain ⟨hle, hxs⟩ := Prod.mk.inj (Option.some.inj h)
        have hle : lo.toNat + n.toNat ≤ ys.length := of_decide_eq_true hle
        obtain rfl : winOf ys lo n = xs := hxs
        obtain ⟨a, c, ea, hc1, hlo, hn0, hcap, hd⟩ := hc
        simp at ea
        have hlen := winOf_length hle
        refine ⟨a, c, by rw [hlen]; exact ea, ?_⟩
        by_cases hn : n = 0
        · left; subst hn; simp [winOf]
        · right
          rcases hd with hd | ⟨b, of, hb, rfl⟩
          · omega
          · obtain ⟨b', of', arr, E, fr, pre, post, q1, q2, q3, q4⟩ := intList_cells hm hV (by intro e; subst e; simp at hle hn; omega)
            rw [hb] at q1; simp at q1; obtain ⟨rfl, rfl⟩ := q1
            refine ⟨b, of + lo.toNat * 1, arr, E, fr, rfl, q2, ?_, ?_⟩
            · rw [hlen, ← Array.length_toList, q3, ← q4]; simp; omega
            · rw [q3, hlen, ← q4, Nat.mul_one, ← List.drop_drop, List.append_assoc, List.drop_left, List.drop_append_of_le_length (by simp; omega), List.take_append_of_le_length (by simp; omega)]
              simp [winOf, List.map_take, List.map_drop]
      · cases h
    · cases h
  · next i off Nn lo n =>
    split at h
    · next cs hV =>
      split at h
      · next k' N' f hmid =>
        split at h
        · next hk =>
          obtain ⟨rfl, rfl⟩ := hk
          simp at h; subst h
          obtain ⟨a, c, ea, hc1, hlo, hn0, hN, hd⟩ := hc
          simp at ea
          refine ⟨a, c, by simpa using ea, ?_⟩
          by_cases hn : n = 0
          · left; subst hn; simp
          · right
            rcases hd with hd | ⟨_, b, hb, rfl⟩
            · omega
            · obtain ⟨b', arr, E, l, h', q1, q2, q3, q4, q5⟩ := hm i _ hV
              rw [hb] at q1; simp at q1; subst q1
              obtain ⟨g1, g2, g3⟩ := midCks_spec hmid q3
              have e2 := arr_single (v := .nilFunc) rfl g1
              rw [Array.length_toList] at g2
              refine ⟨b, off + lo.toNat, arr, E, (l, h'), rfl, q2, by simp; omega, ?_⟩
              apply List.ext_getElem?
              intro j
              simp only [List.length_map, List.length_range, List.getElem?_take, List.getElem?_drop, List.map_map, List.getElem?_map]
              by_cases hj : j < n.toNat
              · rw [if_pos hj]
                have := congrArg (fun l => l[lo.toNat + j]?) e2
                simp only [List.getElem?_take, List.getElem?_drop, List.getElem?_map] at this
                rw [if_pos (by omega)] at this
                rw [show off + lo.toNat + j = off + (lo.toNat + j) by omega, this]
                rw [List.getElem?_range hj, List.getElem?_range (by omega)]
                rfl
              · rw [if_neg hj]
                simp [hj]
        · cases h
      · cases h
    · cases h
  · cases h

theorem run_loadCells_at {b o n E : Nat} {arr : Array Value} {fr : Nat × Nat} {l : List Value} (hw : w.heap[b]? = some (.cells arr E fr)) (hs : o + n ≤ arr.size) (hl : (arr.toList.drop o).take n = l) :
    (loadCells ⟨b, o, none⟩ n).run P w = .ok l.toArray w := by
  rw [run_loadCells P hw hs, hl]

theorem convertB_sound {s d : TypeId} {x : Operand} (hρ : ∀ x, (ρ x).R φ m (ev x)) (hm : ∀ i o, m i = some o → ObjOk φ m N F w i o) (h : readOp P ρ m (.convert s d x) = some (true, v)) :
    ∃ val, (convert s d (ev x)).run P w = .ok val w ∧ v.R φ m val := by
  have hx := hρ x
  simp only [readOp] at h
  split at h
  · next e c e1 e2 e3 =>
    rw [e3] at hx
    split at h
    · next he =>
      split at h
      · next b xs hi =>
        simp only [Option.some.injEq, Prod.mk.injEq] at h
        obtain ⟨rfl, rfl⟩ := h
        obtain ⟨a, cap, ev', hd⟩ := intsOf_cells hm hi hx
        rw [ev']
        refine ⟨.string (strOfNums xs), ?_, rfl⟩
        rw [run_convert_bytes_string w s d e a xs.length cap e1 he e2]
        rcases hd with rfl | ⟨b, o, arr, E, fr, rfl, q1, q2, q3⟩
        · cases a with
          | none => simp [Conv.bytesToString, strOfNums, ByteArray.empty, ByteArray.emptyWithCapacity]; rfl
          | some a =>
            have := run_bytesToString (P := P) w a 0 cap [] (by simp [loadCells, loadCellsFrom])
            exact this
        · rw [run_bytesToString w _ xs.length cap xs (run_loadCells_at q1 q2 q3), foldl_push_bytes]
          simp [strOfNums, ByteArray.empty, ByteArray.emptyWithCapacity]
          rfl
      · cases h
    · cases h
  · cases h

theorem readOp_sound {o : Oper} (hρ : ∀ x, (ρ x).R φ m (ev x)) (hm : ∀ i o, m i = some o → ObjOk φ m N F w i o) (h : readOp P ρ m o.op = some (true, v)) :
    ∃ val, (execOp ev o).run P w = .ok (.value val) w ∧ v.R φ m val := by
  unfold execOp
  generalize o.op = op at h
  have lift : ∀ {s : Sem Value}, (∃ val, s.run P w = .ok val w ∧ v.R φ m val) → ∃ val, (do pure (.value (← s)) : Sem Next).run P w = .ok (.value val) w ∧ v.R φ m val :=
    fun ⟨val, h1, h2⟩ => ⟨val, by simp [h1], h2⟩
  cases op with
  | load t a => exact lift (load_sound hρ hm h)
  | indexAddr t x i => exact lift (indexAddrS_sound hρ hm h)
  | slice t x lo hi mx => exact lift (sliceS_sound hρ hm h)
  | convert s d x => exact lift (convertB_sound hρ hm h)
  | call c =>
    obtain ⟨callee, args, argTypes⟩ := c
    cases callee with
    | value _ => simp [readOp] at h
    | invoke _ _ => simp [readOp] at h
    | builtin bi =>
      cases bi with
      | len =>
        simp only [readOp] at h
        simp only [resolve, Sem.run_bind, Sem.run_pure, Result.andThen_ok, invoke, builtin]
        split at h
        · next x e e1 e2 =>
          obtain ⟨tt, et, eu⟩ := Option.bind_eq_some_iff.1 e2
          have hx := hρ x
          have hl : ∀ (a : Option Addr) (n c : Nat), ev x = .slice a n c → (Builtin.len_ argTypes o.type (args.map ev)).run P w = .ok (.int .i64 n) w := fun a n c e => by
            simp [Builtin.len_, et, e1, run_underlying eu, e, goInt]
          split at h
          · next e3 =>
            rw [e3] at hx
            simp at h; subst h
            simp only [SV.R, Ck.R, List.cons.injEq, and_true] at hx
            exact ⟨_, by rw [hl _ _ _ hx]; rfl, rfl⟩
          · next i e3 =>
            rw [e3] at hx
            split at h
            · next T xs own hV =>
              simp at h; subst h
              exact ⟨_, by rw [hl _ _ _ (R_sl hV hx)]; rfl, rfl⟩
            · cases h
          · next i sz lo n e3 =>
            rw [e3] at hx
            simp at h; subst h
            obtain ⟨a, c, ea, _, _, hn, _⟩ := hx
            simp at ea
            exact ⟨_, by rw [hl _ _ _ ea]; rfl, by simp [SV.R, Ck.R]; omega⟩
          · next i off Nn lo n e3 =>
            rw [e3] at hx
            simp at h; subst h
            obtain ⟨a, c, ea, _, _, hn, _⟩ := hx
            simp at ea
            exact ⟨_, by rw [hl _ _ _ ea]; rfl, by simp [SV.R, Ck.R]; omega⟩
          · cases h
        · cases h
      | _ => simp [readOp] at h
  | _ => simp [readOp] at h
end

end Go.Sx
