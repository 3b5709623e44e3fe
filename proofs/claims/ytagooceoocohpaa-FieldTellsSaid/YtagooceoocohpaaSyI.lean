/-
  The operations that make new objects.
-/
import Derived.Test.YtagooceoocohpaaSyH
set_option linter.unusedVariables false
namespace Go.Sx

def tyOf (P : Program) : Nat → TypeId → Option Ty
  | 0, _ => none
  | d + 1, t => match P.underlying t with
    | some (.int k) => some (.int k)
    | some .bool => some .bool
    | some .string => some .str
    | some (.array n e) => (match P.underlying e with
      | some (.int k) => some (.arr k n)
      | _ => none)
    | some (.struct fs) => (match fs.toList.reverse with
      | [] => none
      | f :: r => r.foldl (fun acc g => match tyOf P d g.type, acc with
        | some a, some b => some (.pair a b)
        | _, _ => none) (tyOf P d f.type))
    | _ => none

def decInt (k : IntKind) : List Ck → Option (Int × List Ck)
  | .int k' x :: r => if k = k' then some (x, r) else none
  | _ => none
def decBool : List Ck → Option (Bool × List Ck)
  | .bool b :: r => some (b, r)
  | _ => none
def decStr : List Ck → Option (ByteArray × List Ck)
  | .str b :: r => some (b, r)
  | _ => none
def decArr (k : IntKind) (n : Nat) : List Ck → Option ((Nat → Int) × List Ck)
  | .arr k' n' f :: r => if k = k' ∧ n = n' then some (f, r) else none
  | _ => none

def Ty.dec : (T : Ty) → List Ck → Option (T.den × List Ck)
  | .int k, cs => decInt k cs
  | .bool, cs => decBool cs
  | .str, cs => decStr cs
  | .arr k n, cs => decArr k n cs
  | .pair a b, cs => (match a.dec cs with
    | some (x, r) => (match b.dec r with
      | some (y, q) => some ((x, y), q)
      | none => none)
    | none => none)

theorem decInt_enc {k cs x r} (h : decInt k cs = some (x, r)) : cs = [.int k x] ++ r := by
  unfold decInt at h; split at h
  · split at h
    · next e => subst e; simp at h; obtain ⟨rfl, rfl⟩ := h; rfl
    · cases h
  · cases h
theorem decBool_enc {cs x r} (h : decBool cs = some (x, r)) : cs = [.bool x] ++ r := by
  unfold decBool at h; split at h
  · simp at h; obtain ⟨rfl, rfl⟩ := h; rfl
  · cases h
theorem decStr_enc {cs x r} (h : decStr cs = some (x, r)) : cs = [.str x] ++ r := by
  unfold decStr at h; split at h
  · simp at h; obtain ⟨rfl, rfl⟩ := h; rfl
  · cases h
theorem decArr_enc {k n cs x r} (h : decArr k n cs = some (x, r)) : cs = [.arr k n x] ++ r := by
  unfold decArr at h; split at h
  · split at h
    · next e => obtain ⟨rfl, rfl⟩ := e; simp at h; obtain ⟨rfl, rfl⟩ := h; rfl
    · cases h
  · cases h

theorem Ty.dec_enc : ∀ {T : Ty} {cs r : List Ck} {x : T.den}, T.dec cs = some (x, r) → cs = T.enc x ++ r
  | .int k, cs, r, x, h => decInt_enc h
  | .bool, cs, r, x, h => decBool_enc h
  | .str, cs, r, x, h => decStr_enc h
  | .arr k n, cs, r, x, h => decArr_enc h
  | .pair a b, cs, r, x, h => by
    unfold Ty.dec at h
    split at h
    · next y q h1 =>
      split at h
      · next z q' h2 =>
        simp at h; obtain ⟨rfl, rfl⟩ := h
        rw [Ty.dec_enc h1, Ty.dec_enc h2]
        simp [Ty.enc]
      · cases h
    · cases h

def Ty.dec1 (T : Ty) (cs : List Ck) : Option T.den :=
  match T.dec cs with
  | some (x, []) => some x
  | _ => none

theorem Ty.dec1_enc {T : Ty} {cs : List Ck} {x : T.den} (h : T.dec1 cs = some x) : cs = T.enc x := by
  unfold Ty.dec1 at h
  split at h
  · next y hy => simp at h; subst h; simpa using Ty.dec_enc hy
  · cases h

theorem FlatR.of_enc {φ m} : ∀ (T : Ty) (x : T.den) (l : List Value), FlatR φ m (T.enc x) l → l = T.cells x := by
  intro T
  induction T with
  | pair a b iha ihb =>
    intro x l h
    obtain ⟨p, q, rfl, h1, h2⟩ := FlatR.of_append h
    rw [iha _ _ h1, ihb _ _ h2]; rfl
  | _ =>
    intro x l h
    obtain ⟨l1, l2, rfl, h1, h2⟩ := h
    simp only [FlatR] at h2; subst h2
    simpa [Ck.R, Ty.cells] using h1

theorem FlatR.dec1 {φ m} {T : Ty} {cs : List Ck} {x : T.den} {l : List Value} (h : T.dec1 cs = some x) (hl : FlatR φ m cs l) : l = T.cells x := by
  rw [Ty.dec1_enc h] at hl
  have key : ∀ (T : Ty) (x : T.den) (l : List Value), FlatR φ m (T.enc x) l → l = T.cells x := by
    intro T
    induction T with
    | pair a b iha ihb =>
      intro x l h
      obtain ⟨p, q, rfl, h1, h2⟩ := FlatR.of_append h
      rw [iha _ _ h1, ihb _ _ h2]; rfl
    | _ =>
      intro x l h
      obtain ⟨l1, l2, rfl, h1, h2⟩ := h
      simp only [FlatR] at h2; subst h2
      simpa [Ck.R, Ty.cells] using h1
  exact key T x l hl

def decParts (T : Ty) (ρ : Operand → SV) : Nat → List (Nat × Operand) → Option (List T.den)
  | _, [] => some []
  | k, (i, x) :: r => if i = k then (match (ρ x).cks with
    | some cs => (match T.dec1 cs, decParts T ρ (k + 1) r with
      | some y, some ys => some (y :: ys)
      | _, _ => none)
    | none => none) else none

/-- A text's bytes, as numbers. -/
def bytesOf (s : ByteArray) : List Int := s.data.toList.map fun b => (b.toNat : Int)

theorem bytesOf_length (s : ByteArray) : (bytesOf s).length = s.size := by simp [bytesOf]

def newOp (P : Program) (ρ : Operand → SV) (V : Nat → Option AObj) : Op → Option (Bool × AObj)
  | .alloc t => (match zeroOf P t with | some z => some (true, .var z) | none => none)
  | .box t x => (match (ρ x).cks with | some cs => some (true, .var cs) | none => none)
  | .buildSlice t len parts => (match P.underlying t with
    | some (.slice e) => (match tyOf P 12 e, P.underlying e, zeroOf P e with
      | some T, some _, some _ => if T.size = P.cellsOf e ∧ parts.size = len ∧ len * P.cellsOf e ≤ 16777216 then (match decParts T ρ 0 parts.toList with
        | some xs => some (true, .list T xs true)
        | none => none) else none
      | _, _, _ => none)
    | _ => none)
  | .makeSlice t len cap => (match P.underlying t, ρ len, ρ cap with
    | some (.slice e), .sc (.int .i64 l), .sc (.int .i64 c) => (match tyOf P 12 e, P.underlying e, zeroOf P e with
      | some T, some _, some z => if T.size = P.cellsOf e then (match T.dec1 z with
        | some x => some (decide (0 ≤ l) && decide (P.bytesOf e * l ≤ 281474976710656) && decide (l ≤ 9223372036854775807) && decide (l = c), .list T (List.replicate l.toNat x) true)
        | none => none) else none
      | _, _, _ => none)
    | _, _, _ => none)
  | .convert s d x => (match P.underlying s, P.underlying d, ρ x with
    | some .string, some (.slice e), .sc (.str t) => (match P.underlying e with
      | some (.int .u8) => if P.cellsOf e = 1 then some (true, .list (.int .u8) (bytesOf t) true) else none
      | _ => none)
    | _, _, _ => none)
  | .makeMap t none => (match P.underlying t with
    | some (.map k e) => (match tyOf P 12 k, tyOf P 12 e with
      | some K, some W => some (true, .map K W [])
      | _, _ => none)
    | _ => none)
  | _ => none

def AObj.refTo (o : AObj) (i : Nat) : SV :=
  match o with
  | .var _ => .sc (.ptr i 0)
  | .list _ _ _ => .sc (.sl i)
  | .map _ _ _ => .sc (.mp i)

section
variable {P : Program} {φ : Nat → Place} {s : St} {w0 : World} {F : Fp} {a : Act} {w : World}

theorem Old.push (w : World) (o : Obj) : Old (fun _ => False) w { w with heap := w.heap.push o } :=
  ⟨rfl, rfl, rfl, by simp, fun k hk _ => by simp [Array.getElem?_push, Nat.ne_of_lt hk]⟩

theorem push_at (w : World) (o : Obj) : ({ w with heap := w.heap.push o } : World).heap[w.heap.size]? = some o := by simp

/-- A new variable. -/
theorem Rel.newVar {i : Nat} {cs : List Ck} {cells : Array Value} {E : TypeId} (h : Rel w0 F φ s a w) (hi : s.mem.used i = false) (hf : FlatR φ s.mem.objs cs cells.toList) (hids : ∀ j ∈ Cks.ids cs, s.mem.used j = true) :
    Rel w0 F (updP φ i ⟨some ⟨w.heap.size, 0, none⟩, 0⟩) { s with mem := s.mem.add i (.var cs) } a { w with heap := w.heap.push (.cells cells E (0, 0)) } := by
  have hno : ∀ j ∈ Cks.ids cs, j ≠ i := fun j hj e => by have := hids j hj; subst e; rw [hi] at this; cases this
  refine h.new hi (Old.push w _) ?_ hids (fun b o' hb _ => by simp at hb; omega) (fun T xs e => by cases e)
  refine ⟨w.heap.size, cells, E, 0, 0, by simp [updP], push_at w _, ?_, .inl (Nat.le_refl _), .inl h.old.size⟩
  refine hf.keep fun j hj => ⟨by simp [updP, hno j hj], fun T xs o hm => ⟨T, xs, o, by simpa [Mem.add, hno j hj] using hm, rfl⟩⟩

/-- A new list. -/
theorem Rel.newList {i cap : Nat} {T : Ty} {xs : List T.den} {cells : Array Value} {E lo hi : Nat} {w' : World} {post : List Value} (h : Rel w0 F φ s a w) (hi' : s.mem.used i = false) (hold : Old (fun _ => False) w w')
    (hw : w'.heap[w.heap.size]? = some (.cells cells E (lo, hi))) (hc : cells.toList = xs.flatMap T.cells ++ post) (hcap : xs.length ≤ cap) (hsz : cap * T.size ≤ cells.size) (hfr : hi ≤ lo ∨ cells.size ≤ lo) :
    Rel w0 F (updP φ i ⟨some ⟨w.heap.size, 0, none⟩, cap⟩) { s with mem := s.mem.add i (.list T xs true) } a w' := by
  refine h.new hi' hold ?_ (by simp [AObj.ids]) (fun b o' hb _ => by simp at hb; omega) (fun T xs e => by cases e)
  exact .inr ⟨w.heap.size, 0, cells, E, lo, hi, [], post, by simp [updP], hw, by simpa using hc, rfl, by simpa [updP] using hcap, by simpa [updP] using hsz, fun _ => ⟨hfr, .inl h.old.size⟩⟩

theorem fill_seq (size : Nat) : ∀ (vs : List (Nat × Value)) (k : Nat) (cells : Array Value) (done rest : List Value), cells.toList = done ++ rest → done.length = k * size → rest.length = vs.length * size →
    (∀ j (hj : j < vs.length), (vs[j]).1 = k + j ∧ (vs[j]).2.cells.size = size) →
    ∃ cells', Instr.fill (fun i => some (i * size, size)) cells vs = some cells' ∧ cells'.toList = done ++ vs.flatMap fun p => p.2.cells.toList
  | [], k, cells, done, rest, h, _, hr, _ => ⟨cells, rfl, by simp at hr; subst hr; simpa using h⟩
  | (i, v) :: vs, k, cells, done, rest, h, hd, hr, hv => by
    obtain ⟨h1, h2⟩ := hv 0 (by simp)
    simp at h1 h2
    obtain rfl : k = i := h1.symm
    simp only [List.length_cons, Nat.add_mul, Nat.one_mul] at hr
    have hsz : cells.size = k * size + (vs.length * size + size) := by rw [← Array.length_toList, h]; simp [hd, hr]
    have hset := foldl_set v.cells.toList (k * size) cells 0 (by simp [h2]; omega)
    simp only [Nat.add_zero, Array.length_toList, h2] at hset
    rw [h, ← hd, List.take_left, ← List.drop_drop, List.drop_left] at hset
    obtain ⟨cells', g1, g2⟩ := fill_seq size vs (k + 1) (v.cells.toList.zipIdx.foldl (fun cs p => cs.setIfInBounds (done.length + p.2) p.1) cells) (done ++ v.cells.toList) (rest.drop size) hset
      (by simp [hd, h2, Nat.add_mul]) (by simp; omega) (fun j hj => by
        have := hv (j + 1) (by simpa using hj)
        simp at this
        exact ⟨by rw [this.1]; omega, this.2⟩)
    refine ⟨cells', ?_, by rw [g2]; simp⟩
    simp only [Instr.fill]
    rw [if_neg (by simp [h2]; omega)]
    have e : (v.cells.zipIdx.foldl (fun cs (c, j) => cs.setIfInBounds (k * size + j) c) cells) = v.cells.toList.zipIdx.foldl (fun cs p => cs.setIfInBounds (done.length + p.2) p.1) cells := by
      rw [← Array.foldl_toList, Array.toList_zipIdx, hd]
    rw [e]
    exact g1

theorem decParts_cells {φ m} {T : Ty} {ρ : Operand → SV} {ev : Operand → Value} (hρ : ∀ x, (ρ x).R φ m (ev x)) : ∀ (parts : List (Nat × Operand)) (k : Nat) (xs : List T.den), decParts T ρ k parts = some xs →
    (∀ j (hj : j < (parts.map fun p => (p.1, ev p.2)).length), ((parts.map fun p => (p.1, ev p.2))[j]).1 = k + j ∧ ((parts.map fun p => (p.1, ev p.2))[j]).2.cells.size = T.size) ∧
    ((parts.map fun p => (p.1, ev p.2)).flatMap fun p => p.2.cells.toList) = xs.flatMap T.cells ∧ xs.length = parts.length
  | [], k, xs, h => by simp [decParts] at h; subst h; exact ⟨fun j hj => by simp at hj, rfl, rfl⟩
  | (i, x) :: r, k, xs, h => by
    simp only [decParts] at h
    split at h
    · next hik =>
      subst hik
      split at h
      · next cs hcs =>
        split at h
        · next y ys hy hys =>
          simp at h; subst h
          obtain ⟨h1, h2, h3⟩ := decParts_cells hρ r (i + 1) ys hys
          have hc := FlatR.dec1 hy (SV.cks_R hcs (hρ x)).1
          refine ⟨fun j hj => ?_, by simp only [List.map_cons, List.flatMap_cons, hc, h2], by simp [h3]⟩
          cases j with
          | zero => simp only [List.map_cons, List.getElem_cons_zero, Nat.add_zero, true_and]; rw [← Array.length_toList, hc, Ty.cells_length]
          | succ j =>
            have := h1 j (by simpa using hj)
            simp only [List.map_cons, List.getElem_cons_succ]
            exact ⟨by rw [this.1]; omega, this.2⟩
        · cases h
      · cases h
    · cases h

theorem zeros_flat {T : Ty} (x : T.den) (z : Array Value) (hz : z.toList = T.cells x) : ∀ (n : Nat), ((List.range (n * T.size)).map fun i => z[i % z.size]!) = (List.replicate n x).flatMap T.cells
  | 0 => by simp
  | n + 1 => by
    have hs : z.size = T.size := by rw [← Array.length_toList, hz, Ty.cells_length]
    have hT : (List.range T.size).map (fun i => z[i % z.size]!) = T.cells x := by
      rw [← hz]
      apply List.ext_getElem?
      intro i
      rcases Nat.lt_or_ge i T.size with h | h
      · rw [List.getElem?_map, List.getElem?_range h]
        have hi : i < z.size := by omega
        simp [hs, Nat.mod_eq_of_lt h]
        rw [getElem!_pos z i hi, Array.getElem?_eq_getElem hi]
      · rw [List.getElem?_eq_none (by simpa using h), List.getElem?_eq_none (by simp; omega)]
    rw [Nat.add_mul, Nat.one_mul, Nat.add_comm, List.range_add, List.map_append, hT, List.map_map]
    rw [List.replicate_succ, List.flatMap_cons, ← zeros_flat x z hz n]
    congr 1
    apply List.map_congr_left
    intro i _
    simp [hs]

theorem zeroOk_ids : ∀ {cs : List Ck} {l : List Value}, zeroOk cs l = true → Cks.ids cs = []
  | [], _, _ => rfl
  | c :: cs, l, h => by
    cases c with
    | arr k n f =>
      simp only [zeroOk, Bool.and_eq_true] at h
      simp [Cks.ids, Ck.ids, zeroOk_ids h.2]
    | _ =>
      cases l with
      | nil => simp [zeroOk] at h
      | cons v l =>
        simp only [zeroOk, Bool.and_eq_true] at h
        simp only [Cks.ids, zeroOk_ids h.2, List.append_nil]
        first | rfl | (exfalso; have h1 := h.1; cases v <;> simp [Ck.isZ] at h1)

theorem zeroOf_ids {t : TypeId} {cs : List Ck} (h : zeroOf P t = some cs) : Cks.ids cs = [] := by
  unfold zeroOf at h
  split at h
  · split at h
    · next hz => simp at h; subst h; exact zeroOk_ids hz
    · cases h
  · cases h

theorem zeroOf_info {t : TypeId} {cs : List Ck} (h : zeroOf P t = some cs) : ∃ i, P.info? t = some i := by
  unfold zeroOf at h
  split at h
  · next v _ hv _ =>
    cases hi : P.info? t with
    | none => simp [hi] at hv
    | some i => exact ⟨i, rfl⟩
  · cases h

theorem lift_value {s : Sem Value} {val : Value} {w w' : World} (h : s.run P w = .ok val w') : (do pure (.value (← s)) : Sem Next).run P w = .ok (.value val) w' := by simp [h]

theorem wrap64_id {l : Int} (h0 : 0 ≤ l) (h1 : l ≤ 9223372036854775807) : IntKind.i64.wrap l = l := by
  have h2 : l % 18446744073709551616 = l := Int.emod_eq_of_lt h0 (by omega)
  simp [IntKind.wrap, IntKind.bits, IntKind.signed, h2]
  omega

theorem run_askRoom (n : Nat) : (askRoom n).run P w = .ok () w := by
  unfold askRoom; split <;> rfl

theorem newOp_sound {ρ : Operand → SV} {o : Oper} {ob : AObj} {i : Nat} (h : Rel w0 F φ s a w) (hρ : ∀ x, (ρ x).R φ s.mem.objs (a.eval x)) (hids : ∀ x, ∀ j ∈ (ρ x).ids, s.mem.used j = true)
    (hi : s.mem.used i = false) (ho : newOp P ρ s.mem.objs o.op = some (true, ob)) :
    ∃ val w' p, (execOp a.eval o).run P w = .ok (.value val) w' ∧ Rel w0 F (updP φ i p) { s with mem := s.mem.add i ob } a w' ∧ (ob.refTo i).R (updP φ i p) (s.mem.add i ob).objs val := by
  unfold execOp
  generalize o.op = op at ho
  cases op with
  | alloc t =>
    simp only [newOp] at ho
    split at ho
    · next z hz =>
      simp at ho; subst ho
      obtain ⟨zv, hzv, hzf⟩ := zeroOf_sound (φ := φ) (m := s.mem.objs) hz
      exact ⟨.pointer (some ⟨w.heap.size, 0, none⟩), _, ⟨some ⟨w.heap.size, 0, none⟩, 0⟩, lift_value (by simp only [Instr.alloc, Sem.run_bind, hzv, Result.andThen_ok, newVar, newRow, run_newObj, Sem.run_pure]),
        h.newVar (E := t) hi hzf (by rw [zeroOf_ids hz]; simp), ⟨w.heap.size, by simp [updP], rfl⟩⟩
    · cases ho
  | box t x =>
    simp only [newOp] at ho
    split at ho
    · next cs hcs =>
      simp at ho; subst ho
      obtain ⟨hf, hcids⟩ := SV.cks_R hcs (hρ x)
      exact ⟨.pointer (some ⟨w.heap.size, 0, none⟩), _, ⟨some ⟨w.heap.size, 0, none⟩, 0⟩, lift_value (by simp only [Instr.box, Sem.run_bind, Result.andThen_ok, newVar, newRow, run_newObj, Sem.run_pure]),
        h.newVar (E := t) hi hf (fun j hj => hids x j (hcids j hj)), ⟨w.heap.size, by simp [updP], rfl⟩⟩
    · cases ho
  | buildSlice t len parts =>
    simp only [newOp] at ho
    split at ho
    · next e hu =>
      split at ho
      · next T d z hT hd hz =>
        split at ho
        · next hc =>
          obtain ⟨hsz, hlen, hbig⟩ := hc
          split at ho
          · next xs hxs =>
            simp at ho; subst ho
            obtain ⟨h1, h2, h3⟩ := decParts_cells hρ _ _ _ hxs
            obtain ⟨zv, hzv, hzf⟩ := zeroOf_sound (φ := φ) (m := s.mem.objs) hz
            have hpl : (parts.map fun (i, x) => (i, a.eval x)).toList = parts.toList.map fun p => (p.1, a.eval p.2) := by simp
            have hpn : (parts.toList.map fun p => (p.1, a.eval p.2)).length = len := by simp [hlen]
            generalize hZ : (if len * P.cellsOf e = 0 then #[] else zv.cells) = Z
            obtain ⟨cells, g1, g2⟩ := fill_seq T.size (parts.toList.map fun p => (p.1, a.eval p.2)) 0 ((Array.range (len * P.cellsOf e)).map (Z[· % Z.size]!)) [] _ (List.nil_append _).symm (by simp) (by simp [hlen, hsz]) h1
            rw [h2, List.nil_append] at g2
            have hxl : xs.length = len := by rw [h3, Array.length_toList, hlen]
            refine ⟨.slice (some ⟨w.heap.size, 0, none⟩) len len, _, ⟨some ⟨w.heap.size, 0, none⟩, len⟩, lift_value (w' := { w with heap := w.heap.push (.cells cells e (0, 0)) }) ?_,
              h.newList (cap := len) (post := []) hi (Old.push w _) (push_at w _) (by simpa using g2) (by omega) ?_ (.inl (Nat.le_refl _)), ?_⟩
            · simp only [Instr.buildSlice, Sem.run_bind, run_underlying hu, Result.andThen_ok, run_sizeOf (info_of_underlying hd)]
              rw [if_neg (by omega)]
              rw [hsz] at g1
              by_cases h0 : len * P.cellsOf e = 0
              · rw [if_pos h0] at hZ ⊢
                subst hZ
                simp only [Sem.run_bind, Sem.run_pure, Result.andThen_ok, hpl, g1]
                simp [newRow]
              · rw [if_neg h0] at hZ ⊢
                subst hZ
                simp only [Sem.run_bind, Sem.run_pure, Result.andThen_ok, hzv, hpl, g1]
                simp [newRow]
            · rw [← Array.length_toList, g2, flatMap_length, hxl]; exact Nat.le_refl _
            · simp [AObj.refTo, SV.R, Ck.R, Mem.add, updP, hxl]
          · cases ho
        · cases ho
      · cases ho
    · cases ho
  | makeSlice t len cap =>
    have hl := hρ len; have hcp := hρ cap
    simp only [newOp] at ho
    split at ho
    · next e l c hu e1 e2 =>
      rw [e1] at hl; rw [e2] at hcp
      split at ho
      · next T d z hT hd hz =>
        split at ho
        · next hsz =>
          split at ho
          · next x hx =>
            simp only [Option.some.injEq, Prod.mk.injEq] at ho
            obtain ⟨hc, rfl⟩ := ho
            obtain ⟨hc, hc4⟩ := bool_and_true hc
            obtain ⟨hc, hc3⟩ := bool_and_true hc
            obtain ⟨hc1, hc2⟩ := bool_and_true hc
            have h1 := of_decide_eq_true hc1; have h2 := of_decide_eq_true hc2; have h3 := of_decide_eq_true hc3; have h4 := of_decide_eq_true hc4
            subst h4
            obtain ⟨zv, hzv, hzf⟩ := zeroOf_sound (φ := φ) (m := s.mem.objs) hz
            obtain ⟨inf, hinf⟩ := zeroOf_info hz
            have hby : P.bytesOf e = inf.bytes := by simp [Program.bytesOf, hinf]
            have hzc := FlatR.dec1 hx hzf
            have hcells := zeros_flat x zv.cells hzc l.toNat
            have hzs : zv.cells.size = T.size := by rw [← Array.length_toList, hzc, Ty.cells_length]
            refine ⟨.slice (some ⟨w.heap.size, 0, none⟩) l.toNat l.toNat, _, ⟨some ⟨w.heap.size, 0, none⟩, l.toNat⟩,
              lift_value (w' := { w with heap := w.heap.push (.cells ((Array.range (l.toNat * P.cellsOf e)).map (zv.cells[· % zv.cells.size]!)) e (0, 0)) }) ?_,
              h.newList (cap := l.toNat) (post := []) hi (Old.push w _) (push_at w _) (by rw [← hsz]; simpa using hcells) (by simp) (by simp [hsz]) (.inl (Nat.le_refl _)), ?_⟩
            · simp only [Instr.makeSlice, Sem.run_bind, run_underlying hu, Result.andThen_ok, R_int hl, R_int hcp, asInt, asIntOf, Sem.run_pure, run_typeInfo hinf, wrap64_id h1 h3]
              rw [← hby]
              rw [if_neg (by simp; omega)]
              simp only [Sem.run_bind, Result.andThen_ok, run_sizeOf (info_of_underlying hd), run_askRoom]
              by_cases h0 : l.toNat * P.cellsOf e = 0
              · rw [if_pos h0]
                simp only [Sem.run_bind, Sem.run_pure, Result.andThen_ok, newRow, run_newObj, h0]
                rw [show Array.range 0 = #[] from rfl]
                simp
              · rw [if_neg h0]
                simp only [Sem.run_bind, Sem.run_pure, Result.andThen_ok, hzv, newRow, run_newObj]
            · simp [AObj.refTo, SV.R, Ck.R, Mem.add, updP]
          · cases ho
        · cases ho
      · cases ho
    · cases ho
  | convert sT d x =>
    have hx := hρ x
    simp only [newOp] at ho
    split at ho
    · next e t e1 e2 e3 =>
      rw [e3] at hx
      split at ho
      · next he =>
        split at ho
        · next hsz =>
          simp at ho; subst ho
          have hrun := Lib.run_convert_string_bytes (P := P) w sT d e t e1 e2 he
          rw [← R_str hx] at hrun
          refine ⟨_, _, ⟨some ⟨w.heap.size, 0, none⟩, grownCap w t.size 0 e⟩, lift_value hrun, ?_, ?_⟩
          · have hge := grownCap_ge w t.size 0 e
            have hbs : (Lib.bytesCells w e t).size = grownCap w t.size 0 e := by simp [Lib.bytesCells]; omega
            refine h.newList (post := List.replicate (grownCap w t.size 0 e - t.size) (.int .u8 0)) hi ⟨rfl, rfl, rfl, ?_, fun k hk _ => Lib.bytesWorld_at_old w e t k hk⟩ (Lib.bytesWorld_at_new w e t) ?_ ?_ ?_ (.inr (Nat.le_refl _))
            · rw [Lib.bytesWorld_size]; omega
            · rw [flatMap_int]
              simp [Lib.bytesCells, bytesOf, Function.comp_def]
            · exact Nat.le_trans (Nat.le_of_eq (bytesOf_length t)) hge
            · rw [hbs]; simp [Ty.size]
          · have hb : @List.length (Ty.int .u8).den (bytesOf t) = t.size := bytesOf_length t
            simp [AObj.refTo, SV.R, Ck.R, Mem.add, updP, hb]
        · cases ho
      · cases ho
    · cases ho
  | makeMap t reserve =>
    cases reserve with
    | some x => simp [newOp] at ho
    | none =>
      simp only [newOp] at ho
      split at ho
      · split at ho
        · next K W _ _ =>
          simp at ho; subst ho
          refine ⟨.map (some w.heap.size), { w with heap := w.heap.push (.map #[] 0) }, ⟨some ⟨w.heap.size, 0, none⟩, 0⟩, rfl, ?_, ⟨w.heap.size, by simp [updP], rfl⟩⟩
          refine h.new hi (Old.push w _) ⟨w.heap.size, #[], 0, by simp [updP], push_at w _, by simp, by simp, .inl h.old.size⟩ (by simp [AObj.ids]) (fun b o' hb _ => by simp at hb; omega) (fun T xs e => by cases e)
        · cases ho
      · cases ho
  | _ => simp [newOp] at ho
end

end Go.Sx
