/-
  The model's own operations on memory, run: loads and stores of rows of cells, new rows.
-/
import Derived.Test.YtagooceoocohpaaSyB
set_option linter.unusedVariables false
namespace Go.Sx

theorem addr_add (b o n : Nat) : (⟨b, o, none⟩ : Addr).add n = ⟨b, o + n, none⟩ := by
  unfold Addr.add; split
  · next h => subst h; rfl
  · rfl

theorem cell_of {w : World} {b o : Nat} {arr : Array Value} {E : TypeId} {fr : Nat × Nat} (h : w.heap[b]? = some (.cells arr E fr)) : w.cell? ⟨b, o, none⟩ = arr[o]? := by
  simp [World.cell?, h]

theorem run_loadCellsFrom (P : Program) {w : World} {b o : Nat} {arr : Array Value} {E : TypeId} {fr : Nat × Nat} (h : w.heap[b]? = some (.cells arr E fr)) :
    ∀ (n i : Nat) (acc : Array Value), o + i + n ≤ arr.size → (loadCellsFrom ⟨b, o, none⟩ i n acc).run P w = .ok (acc ++ (arr.extract (o + i) (o + i + n))) w := by
  intro n
  induction n with
  | zero => intro i acc hs; simp [loadCellsFrom]; omega
  | succ n ih =>
    intro i acc hs
    have hc : w.cell? ⟨b, o + i, none⟩ = some (arr[o + i]'(by omega)) := by rw [cell_of h, Array.getElem?_eq_getElem]
    simp only [loadCellsFrom, Sem.run_bind, run_load, addr_add, hc, Result.andThen_ok]
    rw [ih (i + 1) _ (by omega)]
    congr 1
    apply Array.toList_inj.1
    simp only [Array.toList_append, Array.toList_push, Array.toList_extract, List.append_assoc, List.extract_eq_take_drop]
    congr 1
    have e1 : o + i + (n + 1) - (o + i) = n + 1 := by omega
    have e2 : o + (i + 1) + n - (o + (i + 1)) = n := by omega
    rw [e1, e2, List.drop_eq_getElem_cons (i := o + i) (by simpa using (by omega : o + i < arr.size)), List.take_succ_cons]
    simp [Nat.add_assoc]

theorem run_loadCells (P : Program) {w : World} {b o n : Nat} {arr : Array Value} {E : TypeId} {fr : Nat × Nat} (h : w.heap[b]? = some (.cells arr E fr)) (hs : o + n ≤ arr.size) :
    (loadCells ⟨b, o, none⟩ n).run P w = .ok (arr.toList.drop o |>.take n).toArray w := by
  unfold loadCells
  rw [run_loadCellsFrom P h n 0 #[] (by omega)]
  congr 1
  apply Array.toList_inj.1
  simp [List.extract_eq_take_drop]

/-- All but block b is as it was. -/
structure But (b : Nat) (w w' : World) : Prop where
  os : w'.os = w.os
  tape : w'.tape = w.tape
  output : w'.output = w.output
  size : w'.heap.size = w.heap.size
  other : ∀ k, k ≠ b → w'.heap[k]? = w.heap[k]?

theorem But.refl (b w) : But b w w := ⟨rfl, rfl, rfl, rfl, fun _ _ => rfl⟩
theorem But.trans {b w1 w2 w3} (h : But b w1 w2) (k : But b w2 w3) : But b w1 w3 :=
  ⟨k.os.trans h.os, k.tape.trans h.tape, k.output.trans h.output, k.size.trans h.size, fun i hi => (k.other i hi).trans (h.other i hi)⟩

theorem But.setCell (w : World) (a : Addr) (v : Value) : But a.block w (w.setCell a v) :=
  ⟨rfl, rfl, rfl, by simp [World.setCell], fun k hk => by simp [World.setCell, Array.getElem?_modify, Ne.symm hk]⟩

theorem run_store_scalar (P : Program) {w : World} {a : Addr} {v x : Value} (hv : scalar v) (hc : w.cell? a = some x) (hf : w.frozen? a = false) :
    (store a v).run P w = .ok () (w.setCell a v) := by
  cases v <;> simp_all [store, Sem.run, scalar]

theorem heap_setCell {w : World} {b o : Nat} {arr : Array Value} {E : TypeId} {fr : Nat × Nat} (h : w.heap[b]? = some (.cells arr E fr)) (v : Value) :
    (w.setCell ⟨b, o, none⟩ v).heap[b]? = some (.cells (arr.setIfInBounds o v) E fr) := by
  simp [World.setCell, Array.getElem?_modify, h]

theorem frozen_of {w : World} {b o : Nat} {arr : Array Value} {E : TypeId} {lo hi : Nat} (h : w.heap[b]? = some (.cells arr E (lo, hi))) (hf : hi ≤ lo ∨ arr.size ≤ lo) (ho : o < arr.size) :
    w.frozen? ⟨b, o, none⟩ = false := by
  simp only [World.frozen?, h]
  simp; omega

theorem run_storeCells (P : Program) {b o E lo hi : Nat} : ∀ (l : List Value) (i : Nat) (w : World) (arr : Array Value),
    w.heap[b]? = some (.cells arr E (lo, hi)) → o + i + l.length ≤ arr.size → (hi ≤ lo ∨ arr.size ≤ lo) → (∀ v ∈ l, scalar v) →
    ∃ w' arr', (storeCells ⟨b, o, none⟩ l i).run P w = .ok () w' ∧ But b w w' ∧ w'.heap[b]? = some (.cells arr' E (lo, hi)) ∧
      arr'.toList = arr.toList.take (o + i) ++ l ++ arr.toList.drop (o + i + l.length)
  | [], i, w, arr, h, _, _, _ => ⟨w, arr, rfl, But.refl _ _, h, by simp⟩
  | v :: l, i, w, arr, h, hs, hf, hv => by
    simp only [List.length_cons] at hs
    have hc : w.cell? ⟨b, o + i, none⟩ = some (arr[o + i]'(by omega)) := by rw [cell_of h, Array.getElem?_eq_getElem]
    have h1 := run_store_scalar P (hv v (by simp)) hc (frozen_of h hf (by omega))
    have h2 := heap_setCell (o := o + i) h v
    obtain ⟨w', arr', g1, g2, g3, g4⟩ := run_storeCells P (o := o) l (i + 1) _ _ h2 (by simp; omega) (by simpa using hf) (fun x hx => hv x (by simp [hx]))
    refine ⟨w', arr', ?_, (But.setCell w ⟨b, o + i, none⟩ v).trans g2, g3, ?_⟩
    · simp only [storeCells, Sem.run_bind, addr_add, h1, Result.andThen_ok, g1]
    · rw [g4]
      simp only [Array.toList_setIfInBounds, List.length_cons]
      have e : o + (i + 1) = (o + i) + 1 := by omega
      rw [e, show o + i + (l.length + 1) = o + i + 1 + l.length from by omega]
      have hlt : o + i < arr.toList.length := by simpa using (by omega : o + i < arr.size)
      generalize arr.toList = xs at hlt
      generalize o + i = k at hlt
      apply List.ext_getElem?
      intro j
      simp only [List.getElem?_append, List.getElem?_take, List.getElem?_drop, List.length_take, List.length_append, List.length_set, List.length_cons, List.getElem?_set]
      rcases Nat.lt_trichotomy j k with h | h | h
      · repeat (first | rw [if_pos (by omega)] | rw [if_neg (by omega)])
      · subst h
        have e0 : j - min j xs.length = 0 := by omega
        repeat (first | rw [if_pos rfl] | rw [if_pos (by omega)] | rw [if_neg (by omega)])
        rw [e0]
        rfl
      · by_cases h2 : j < k + 1 + l.length
        · repeat (first | rw [if_pos (by omega)] | rw [if_neg (by omega)])
          rw [show j - min k xs.length = (j - min (k + 1) xs.length) + 1 from by omega]
          simp
        · repeat (first | rw [if_pos (by omega)] | rw [if_neg (by omega)])
          congr 1; omega

/-! ### Where chunks part -/

def splitCks : List Ck → Nat → Option (List Ck × List Ck)
  | cs, 0 => some ([], cs)
  | [], _ + 1 => none
  | c :: cs, n + 1 => if c.sz ≤ n + 1 then (match splitCks cs (n + 1 - c.sz) with | some (a, b) => some (c :: a, b) | none => none) else none

theorem splitCks_spec : ∀ {cs : List Ck} {n : Nat} {a b : List Ck}, splitCks cs n = some (a, b) → cs = a ++ b ∧ Cks.size a = n
  | cs, 0, a, b, h => by simp [splitCks] at h; obtain ⟨rfl, rfl⟩ := h; exact ⟨rfl, rfl⟩
  | [], _ + 1, a, b, h => by simp [splitCks] at h
  | c :: cs, n + 1, a, b, h => by
    simp only [splitCks] at h
    split at h
    · next hle =>
      split at h
      · next x y hxy =>
        simp at h; obtain ⟨rfl, rfl⟩ := h
        obtain ⟨h1, h2⟩ := splitCks_spec hxy
        exact ⟨by rw [h1]; rfl, by simp only [Cks.size, h2]; omega⟩
      · cases h
    · cases h

def midCks (cs : List Ck) (off n : Nat) : Option (List Ck) :=
  match splitCks cs off with
  | some (_, r) => (match splitCks r n with | some (m, _) => some m | none => none)
  | none => none

def putCks (cs : List Ck) (off : Nat) (new : List Ck) : Option (List Ck) :=
  match splitCks cs off with
  | some (a, r) => (match splitCks r (Cks.size new) with | some (_, z) => some (a ++ new ++ z) | none => none)
  | none => none

theorem midCks_spec {φ m} {cs ms : List Ck} {off n : Nat} {l : List Value} (h : midCks cs off n = some ms) (hl : FlatR φ m cs l) :
    FlatR φ m ms (l.drop off |>.take n) ∧ off + n ≤ l.length ∧ (∀ i ∈ Cks.ids ms, i ∈ Cks.ids cs) := by
  unfold midCks at h
  split at h
  · next a r ha =>
    split at h
    · next mm z hm =>
      simp at h; subst h
      obtain ⟨e1, s1⟩ := splitCks_spec ha
      obtain ⟨e2, s2⟩ := splitCks_spec hm
      subst e1 e2
      obtain ⟨la, lr, rfl, fa, fr⟩ := FlatR.of_append hl
      obtain ⟨lm, lz, rfl, fm, fz⟩ := FlatR.of_append fr
      have h1 := fa.length; have h2 := fm.length
      rw [s1] at h1; rw [s2] at h2
      refine ⟨?_, by simp; omega, fun i hi => ?_⟩
      · rw [← h1, List.drop_left, ← h2, List.take_left]; exact fm
      · have : ∀ (x y : List Ck), Cks.ids (x ++ y) = Cks.ids x ++ Cks.ids y := fun x y => by induction x <;> simp [Cks.ids, *]
        simp [this, hi]
    · cases h
  · cases h

theorem Cks.ids_append (x y : List Ck) : Cks.ids (x ++ y) = Cks.ids x ++ Cks.ids y := by induction x <;> simp [Cks.ids, *]

theorem putCks_spec {φ m} {cs new res : List Ck} {off : Nat} {l ln : List Value} (h : putCks cs off new = some res) (hl : FlatR φ m cs l) (hn : FlatR φ m new ln) :
    FlatR φ m res (l.take off ++ ln ++ l.drop (off + ln.length)) ∧ off + ln.length ≤ l.length ∧ (∀ i ∈ Cks.ids res, i ∈ Cks.ids cs ∨ i ∈ Cks.ids new) := by
  unfold putCks at h
  split at h
  · next a r ha =>
    split at h
    · next mm z hm =>
      simp at h; subst h
      obtain ⟨e1, s1⟩ := splitCks_spec ha
      obtain ⟨e2, s2⟩ := splitCks_spec hm
      subst e1 e2
      obtain ⟨la, lr, rfl, fa, fr⟩ := FlatR.of_append hl
      obtain ⟨lm, lz, rfl, fm, fz⟩ := FlatR.of_append fr
      have h1 := fa.length; have h2 := fm.length; have h3 := hn.length
      rw [s1] at h1; rw [s2, ← h3] at h2
      refine ⟨?_, by simp; omega, fun i hi => ?_⟩
      · rw [← h1, ← h2, List.take_left, ← List.drop_drop, List.drop_left, List.drop_left, List.append_assoc]
        exact FlatR.append fa (FlatR.append hn fz)
      · simp only [Cks.ids_append, List.mem_append] at hi ⊢
        rcases hi with hi | hi | hi
        · exact .inl (.inl hi)
        · exact .inr hi
        · exact .inl (.inr (.inr hi))
    · cases h
  · cases h

end Go.Sx
