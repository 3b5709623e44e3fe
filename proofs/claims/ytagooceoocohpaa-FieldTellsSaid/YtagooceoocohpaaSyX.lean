/-
  Arguments that read as data: what a law's parameters hold.
-/
import Derived.Test.YtagooceoocohpaaSyV
import Derived.OpenShut
import Derived.ChangeOld
import Derived.Carry
import Derived.Handed
import Derived.SizedLaws
import Derived.ProofKit
import Derived.ShutString
set_option linter.unusedVariables false
namespace Go.Sx

/-! ### Data that fit -/

def Ty.wf : (T : Ty) → T.den → Prop
  | .int k, (x : Int) => k.min ≤ x ∧ x ≤ k.max
  | .bool, _ => True
  | .str, (s : ByteArray) => s.size ≤ reachBytes
  | .arr k n, f => ∀ i, i < n → k.min ≤ f i ∧ f i ≤ k.max
  | .pair a b, p => a.wf p.1 ∧ b.wf p.2

/-- 'bo': an element's bytes. -/
def DT.wf (bo : Ty → Nat) : (d : DT) → d.den → Prop
  | .ty T, x => T.wf x
  | .list T, (xs : List T.den) => xs.length * bo T ≤ reachBytes ∧ ∀ x ∈ xs, T.wf x

def Dens.wf (bo : Ty → Nat) : (ds : List DT) → Dens ds → Prop
  | [], _ => True
  | [d], x => d.wf bo x
  | d :: e :: r, p => d.wf bo p.1 ∧ Dens.wf bo (e :: r) p.2

def PDen.wf (bo : Ty → Nat) : (ps : List PT) → PDen ps → Prop
  | [], _ => True
  | [p], x => Dens.wf bo p.ts x
  | p :: q :: r, x => Dens.wf bo p.ts x.1 ∧ PDen.wf bo (q :: r) x.2

/-! ### Types held against the program's -/

def chkFs (c : TypeId → Ty → Bool) (sz : TypeId → Nat) : List (TypeId × Nat) → Nat → Ty → Bool
  | [], _, _ => false
  | [(t, o)], off, T => o == off && (c t T && sz t == T.size)
  | (t, o) :: q :: r, off, .pair a b => o == off && (c t a && (sz t == a.size && chkFs c sz (q :: r) (off + a.size) b))
  | _ :: _ :: _, _, _ => false

def chkTy (P : Program) : Nat → TypeId → Ty → Bool
  | 0, _, _ => false
  | d + 1, t, T => match P.underlying t, T with
    | some (.int k), .int k' => decide (k = k')
    | some .bool, .bool => true
    | some .string, .str => true
    | some (.array n e), .arr k m => (match P.underlying e with
      | some (.int k') => decide (k' = k) && (n == m && (P.cellsOf e == 1 && P.cellsOf t == n))
      | _ => false)
    | some (.struct fs), T => P.cellsOf t == T.size && chkFs (chkTy P d) P.cellsOf (fs.toList.map fun f => (f.type, f.offset)) 0 T
    | _, _ => false

section
variable {H : Type} {enc : TypeId × Value → H} {P : Program} {w : World} {spare : Nat → Bool} {held : Bool}

/-- What a type's cells are to be. -/
def Opens (enc : TypeId × Value → H) (P : Program) (w : World) (spare : Nat → Bool) (held : Bool) (t : TypeId) (T : Ty) : Prop :=
  ∀ (fuel : Nat) (cs : List Value) (d : DataW H) (ps : List MemPlace), DataW.trod enc P w 0 spare held fuel t cs = some (d, ps) → (∀ n ∈ d.weights P t, n ≤ reachBytes) → ∃ x : T.den, cs = T.cells x ∧ T.wf x

theorem opens_fs {c : TypeId → Ty → Bool} {cs : List Value} {m : Nat} (hc : ∀ t T, c t T = true → Opens enc P w spare held t T) :
    ∀ (l : List (TypeId × Nat)) (off : Nat) (T : Ty) (xs : List (DataW H × List MemPlace)), chkFs c P.cellsOf l off T = true → off + T.size ≤ cs.length →
      (∀ (i : Nat) (p : TypeId × Nat), l[i]? = some p → DataW.trod enc P w 0 spare held m p.1 ((cs.drop p.2).take (P.cellsOf p.1)) = xs[i]?) → xs.length = l.length →
      (∀ n ∈ DataW.weightsEach P (l.map (·.1)) (xs.map (·.1)), n ≤ reachBytes) → ∃ x : T.den, (cs.drop off).take T.size = T.cells x ∧ T.wf x
  | [], _, _, _, h, _, _, _, _ => by cases h
  | [(t, o)], off, T, xs, h, hle, hx, hlen, hw => by
    simp only [chkFs, Bool.and_eq_true, beq_iff_eq] at h
    obtain ⟨rfl, h1, h2⟩ := h
    cases xs with
    | nil => cases hlen
    | cons x xs =>
      have h0 := hx 0 (t, o) rfl
      simp only [List.getElem?_cons_zero] at h0
      rw [h2] at h0
      refine hc t T h1 m _ x.1 x.2 h0 fun n hn => hw n ?_
      simp only [List.map_cons, DataW.weightsEach]
      exact List.mem_append.2 (.inl hn)
  | (t, o) :: q :: r, off, T, xs, h, hle, hx, hlen, hw => by
    cases T with
    | pair a b =>
      simp only [chkFs, Bool.and_eq_true, beq_iff_eq] at h
      obtain ⟨rfl, h1, h2, h3⟩ := h
      cases xs with
      | nil => cases hlen
      | cons x xs =>
        simp only [Ty.size] at hle
        have h0 := hx 0 (t, o) rfl
        simp only [List.getElem?_cons_zero] at h0
        rw [h2] at h0
        simp only [List.map_cons, DataW.weightsEach] at hw
        obtain ⟨y, e1, w1⟩ := hc t a h1 m _ x.1 x.2 h0 fun n hn => hw n (List.mem_append.2 (.inl hn))
        obtain ⟨z, e2, w2⟩ := opens_fs (cs := cs) (m := m) hc (q :: r) (o + a.size) b xs h3 (by omega) (fun i p hp => by simpa using hx (i + 1) p (by simpa using hp)) (by simpa using hlen)
          (fun n hn => hw n (List.mem_append.2 (.inr hn)))
        refine ⟨(y, z), ?_, w1, w2⟩
        simp only [Ty.size, Ty.cells, List.take_add, List.drop_drop, e1, e2]
    | _ => cases h

theorem weights_each {P : Program} {t : TypeId} {fs : Array Field} (ht : P.underlying t = some (.struct fs)) (l : List (DataW H)) : (DataW.agg l).weights P t = DataW.weightsEach P (fs.toList.map (·.type)) l := by
  unfold DataW.weights; rw [ht]

theorem opens_ty : ∀ (d : Nat) (t : TypeId) (T : Ty), chkTy P d t T = true → Opens enc P w spare held t T
  | 0, _, _, h => by cases h
  | d + 1, t, T, h => by
    unfold chkTy at h
    intro fuel cs dd ps htrod hwt
    split at h
    · next k k' hu =>
      have := of_decide_eq_true h; subst this
      obtain ⟨n, rfl, hx, hwf⟩ := DataW.trod_int hu htrod
      simp only [Lit.wf, Bool.and_eq_true, decide_eq_true_eq] at hwf
      exact ⟨n, rfl, hwf⟩
    · next hu =>
      obtain ⟨b, rfl, hx⟩ := DataW.trod_bool hu htrod
      exact ⟨b, rfl, trivial⟩
    · next hu =>
      obtain ⟨s, rfl, hx, _⟩ := DataW.trod_string hu htrod
      cases hx
      refine ⟨s, rfl, ?_⟩
      have := hwt s.size (by simp [DataW.weights])
      exact this
    · next n e k m hu =>
      split at h
      · next k' he =>
        simp only [Bool.and_eq_true, beq_iff_eq, decide_eq_true_eq] at h
        obtain ⟨rfl, rfl, h1, h2⟩ := h
        obtain ⟨xs, mm, rfl, hx, hl, hlen, hel⟩ := DataW.trod_array hu htrod
        rw [h2] at hl
        rw [h1] at hel
        have hone : ∀ i, i < n → ∃ v : Int, cs[i]? = some (.int k' v) ∧ k'.min ≤ v ∧ v ≤ k'.max := fun i hi => by
          have hi' := hel i hi
          obtain ⟨y, hy⟩ : ∃ y, xs[i]? = some y := ⟨xs[i], List.getElem?_eq_getElem (by omega)⟩
          rw [hy] at hi'
          obtain ⟨v, e1, _, hwf⟩ := DataW.trod_int he hi'
          simp only [Lit.wf, Bool.and_eq_true, decide_eq_true_eq] at hwf
          refine ⟨v, ?_, hwf⟩
          rw [Nat.mul_one, List.drop_eq_getElem_cons (by omega), List.take_succ_cons, List.take_zero] at e1
          rw [List.getElem?_eq_getElem (by omega)]
          congr 1
          exact List.head_eq_of_cons_eq e1
        refine ⟨fun i => match cs[i]? with | some (.int _ v) => v | _ => 0, ?_, fun i hi => ?_⟩
        · apply List.ext_getElem?
          intro i
          by_cases hi : i < n
          · obtain ⟨v, hv, _⟩ := hone i hi
            simp [Ty.cells, hi, hv]
          · simp [Ty.cells, hi]; omega
        · obtain ⟨v, hv, hw⟩ := hone i hi
          simp only [hv]
          exact hw
      · cases h
    · next fs hu =>
      simp only [Bool.and_eq_true, beq_iff_eq] at h
      obtain ⟨h1, h2⟩ := h
      obtain ⟨xs, n, rfl, hx, hl, hlen, hel⟩ := DataW.trod_struct hu htrod
      cases hx
      rw [weights_each hu] at hwt
      obtain ⟨x, e1, w1⟩ := opens_fs (cs := cs) (m := n) (opens_ty d) (fs.toList.map fun f => (f.type, f.offset)) 0 _ xs h2 (by omega) (fun i p hp => by
          simp only [List.getElem?_map, Option.map_eq_some_iff] at hp
          obtain ⟨f, hf, rfl⟩ := hp
          exact hel i f (by simpa using hf)) (by simp [hlen]) (by simpa [Function.comp_def] using hwt)
      refine ⟨x, ?_, w1⟩
      rw [List.drop_zero, List.take_of_length_le (by omega)] at e1
      exact e1
    · cases h

theorem weightsAll_mem {P : Program} {e : TypeId} {m : Nat} {y : DataW H} (hm : m ∈ y.weights P e) : ∀ {l : List (DataW H)}, y ∈ l → m ∈ DataW.weightsAll P e l
  | [], h => by cases h
  | z :: zs, h => by
    simp only [DataW.weightsAll, List.mem_append]
    rcases List.mem_cons.1 h with rfl | h
    · exact .inl hm
    · exact .inr (weightsAll_mem hm h)

/-! ### Lists of data, piece by piece -/

def Pieces : List ((d : DT) × d.den) → List DT := List.map (·.1)

def DeepS (w : World) : List ((d : DT) × d.den) → List Value → Prop
  | [], l => l = []
  | p :: r, l => ∃ a b, l = a ++ b ∧ DeepD w p.1 p.2 a ∧ DeepS w r b

theorem DeepS.append {w : World} : ∀ {p q : List ((d : DT) × d.den)} {a b : List Value}, DeepS w p a → DeepS w q b → DeepS w (p ++ q) (a ++ b)
  | [], q, a, b, h, h' => by simp only [DeepS] at h; subst h; exact h'
  | x :: p, q, a, b, ⟨c, d, e, h1, h2⟩, h' => ⟨c, d ++ b, by rw [e, List.append_assoc], h1, DeepS.append h2 h'⟩

theorem DeepS.dens {w : World} {bo : Ty → Nat} : ∀ (p : List ((d : DT) × d.den)) (l : List Value), DeepS w p l → (∀ q ∈ p, q.1.wf bo q.2) → ∃ x : Dens (p.map (·.1)), DeepDs w (p.map (·.1)) x l ∧ Dens.wf bo _ x
  | [], l, h, _ => ⟨(), h, trivial⟩
  | [p], l, ⟨a, b, e, h1, h2⟩, hw => by
    simp only [DeepS] at h2; subst h2 e
    rw [List.append_nil]; exact ⟨p.2, h1, hw p (by simp)⟩
  | p :: q :: r, l, ⟨a, b, e, h1, h2⟩, hw => by
    obtain ⟨x, g1, g2⟩ := DeepS.dens (q :: r) b h2 fun u hu => hw u (by simp [hu])
    exact ⟨(p.2, x), ⟨a, b, e, h1, g1⟩, hw p (by simp), g2⟩

def chkTimes (c : List DT → Option (List DT)) : Nat → List DT → Option (List DT)
  | 0, ds => some ds
  | n + 1, ds => (c ds).bind (chkTimes c n)

def chkPs (c : TypeId → List DT → Option (List DT)) (sz : TypeId → Nat) : List (TypeId × Nat) → Nat → List DT → Option (Nat × List DT)
  | [], off, ds => some (off, ds)
  | (t, o) :: r, off, ds => if o = off then (c t ds).bind fun ds => chkPs c sz r (off + sz t) ds else none

def leafP (P : Program) (n : Nat) (t : TypeId) (ds : List DT) : Option (List DT) := match ds with
  | .ty T :: r => if chkTy P n t T = true ∧ (n = 1 → P.cellsOf t = 1) then some r else none
  | _ => none

/-- A type takes its data from the front. -/
def chkP (P : Program) (bo : Ty → Nat) : Nat → TypeId → List DT → Option (List DT)
  | 0, _, _ => none
  | d + 1, t, ds => match P.underlying t with
    | some (.int _) | some .bool | some .string => leafP P 1 t ds
    | some (.array n e) => (match P.underlying e with
      | some (.int _) => leafP P 2 t ds
      | _ => if P.cellsOf t = n * P.cellsOf e then chkTimes (chkP P bo d e) n ds else none)
    | some (.slice e) => (match ds with
      | .list T :: r => if chkTy P 12 e T = true ∧ P.cellsOf e = T.size ∧ P.bytesOf e = bo T ∧ P.cellsOf t = 1 ∧ T.size ≠ 0 then some r else none
      | _ => none)
    | some (.struct fs) => (match chkPs (chkP P bo d) P.cellsOf (fs.toList.map fun f => (f.type, f.offset)) 0 ds with
      | some (n, r) => if n = P.cellsOf t then some r else none
      | none => none)
    | _ => none

def OpensP (enc : TypeId × Value → H) (P : Program) (bo : Ty → Nat) (w : World) (held : Bool) (t : TypeId) (c : List DT → Option (List DT)) : Prop :=
  ∀ (ds r : List DT) (fuel : Nat) (cs : List Value) (d : DataW H) (ps : List MemPlace), c ds = some r → cs.length = P.cellsOf t → DataW.trod enc P w 0 (fun _ => true) held fuel t cs = some (d, ps) → (∀ n ∈ d.weights P t, n ≤ reachBytes) →
    ∃ xs : List ((d : DT) × d.den), ds = xs.map (·.1) ++ r ∧ DeepS w xs cs ∧ ∀ q ∈ xs, q.1.wf bo q.2

theorem one_piece {bo : Ty → Nat} {t : TypeId} {T : Ty} {n : Nat} (hc : chkTy P n t T = true) {fuel : Nat} {cs : List Value} {d : DataW H} {ps : List MemPlace} {r : List DT}
    (ht : DataW.trod enc P w 0 (fun _ => true) held fuel t cs = some (d, ps)) (hw : ∀ n ∈ d.weights P t, n ≤ reachBytes) :
    ∃ xs : List ((d : DT) × d.den), DT.ty T :: r = xs.map (·.1) ++ r ∧ DeepS w xs cs ∧ ∀ q ∈ xs, q.1.wf bo q.2 := by
  obtain ⟨x, e, hx⟩ := opens_ty n t T hc fuel cs d ps ht hw
  exact ⟨[⟨.ty T, x⟩], rfl, ⟨cs, [], by simp, e, rfl⟩, fun q hq => by simp only [List.mem_singleton] at hq; subst hq; exact hx⟩

theorem opens_times {bo : Ty → Nat} {t : TypeId} {c : List DT → Option (List DT)} (hc : OpensP enc P bo w held t c) {m : Nat} : ∀ (n : Nat) (ds r : List DT) (cs : List Value) (xs : List (DataW H × List MemPlace)), chkTimes c n ds = some r → cs.length = n * P.cellsOf t →
    (∀ i, i < n → DataW.trod enc P w 0 (fun _ => true) held m t ((cs.drop (i * P.cellsOf t)).take (P.cellsOf t)) = xs[i]?) → xs.length = n → (∀ n ∈ DataW.weightsAll P t (xs.map (·.1)), n ≤ reachBytes) →
    ∃ ys : List ((d : DT) × d.den), ds = ys.map (·.1) ++ r ∧ DeepS w ys cs ∧ ∀ q ∈ ys, q.1.wf bo q.2
  | 0, ds, r, cs, xs, h, hl, _, _, _ => by
    simp only [chkTimes, Option.some.injEq] at h
    subst h
    rw [Nat.zero_mul] at hl
    exact ⟨[], rfl, List.length_eq_zero_iff.1 hl, fun q hq => by cases hq⟩
  | n + 1, ds, r, cs, xs, h, hl, hx, hlen, hw => by
    simp only [chkTimes, Option.bind_eq_some_iff] at h
    obtain ⟨ds1, h1, h2⟩ := h
    cases xs with
    | nil => cases hlen
    | cons x xs =>
      simp only [List.map_cons, DataW.weightsAll] at hw
      have h0 := hx 0 (by omega)
      simp only [Nat.zero_mul, List.drop_zero, List.getElem?_cons_zero] at h0
      have hmul : (n + 1) * P.cellsOf t = P.cellsOf t + n * P.cellsOf t := by rw [Nat.add_mul, Nat.one_mul, Nat.add_comm]
      rw [hmul] at hl
      obtain ⟨ys, e1, d1, w1⟩ := hc ds ds1 m _ x.1 x.2 h1 (by simp; omega) h0 fun n hn => hw n (List.mem_append.2 (.inl hn))
      obtain ⟨zs, e2, d2, w2⟩ := opens_times hc n ds1 r (cs.drop (P.cellsOf t)) xs h2 (by simp; omega) (fun i hi => by
        have := hx (i + 1) (by omega)
        rw [Nat.add_mul, Nat.one_mul, Nat.add_comm, ← List.drop_drop] at this
        simpa using this) (by simpa using hlen) (fun n hn => hw n (List.mem_append.2 (.inr hn)))
      refine ⟨ys ++ zs, by rw [e1, e2]; simp, ?_, fun q hq => (List.mem_append.1 hq).elim (w1 q) (w2 q)⟩
      have := d1.append d2
      rwa [List.take_append_drop] at this

theorem opens_ps {bo : Ty → Nat} {c : TypeId → List DT → Option (List DT)} (hc : ∀ t, OpensP enc P bo w held t (c t)) {m : Nat} {cs : List Value} :
    ∀ (l : List (TypeId × Nat)) (off n : Nat) (ds r : List DT) (xs : List (DataW H × List MemPlace)), chkPs c P.cellsOf l off ds = some (n, r) → n ≤ cs.length →
      (∀ (i : Nat) (p : TypeId × Nat), l[i]? = some p → DataW.trod enc P w 0 (fun _ => true) held m p.1 ((cs.drop p.2).take (P.cellsOf p.1)) = xs[i]?) → xs.length = l.length →
      (∀ n ∈ DataW.weightsEach P (l.map (·.1)) (xs.map (·.1)), n ≤ reachBytes) → off ≤ n ∧ ∃ ys : List ((d : DT) × d.den), ds = ys.map (·.1) ++ r ∧ DeepS w ys ((cs.take n).drop off) ∧ ∀ q ∈ ys, q.1.wf bo q.2
  | [], off, n, ds, r, xs, h, hle, hx, hlen, hw => by
    simp only [chkPs, Option.some.injEq, Prod.mk.injEq] at h
    obtain ⟨rfl, rfl⟩ := h
    refine ⟨Nat.le_refl _, [], rfl, ?_, fun q hq => by cases hq⟩
    simp only [DeepS]
    rw [List.drop_eq_nil_iff]; simp; omega
  | (t, o) :: l, off, n, ds, r, xs, h, hle, hx, hlen, hw => by
    simp only [chkPs] at h
    split at h
    · next e =>
      subst e
      simp only [Option.bind_eq_some_iff] at h
      obtain ⟨ds1, h1, h2⟩ := h
      cases xs with
      | nil => cases hlen
      | cons x xs =>
        simp only [List.map_cons, DataW.weightsEach] at hw
        have h0 := hx 0 (t, o) rfl
        simp only [List.getElem?_cons_zero] at h0
        obtain ⟨hoff, zs, e2, d2, w2⟩ := opens_ps hc l (o + P.cellsOf t) n ds1 r xs h2 hle (fun i p hp => by simpa using hx (i + 1) p (by simpa using hp)) (by simpa using hlen)
          (fun n hn => hw n (List.mem_append.2 (.inr hn)))
        obtain ⟨ys, e1, d1, w1⟩ := hc t ds ds1 m _ x.1 x.2 h1 (by simp; omega) h0 fun n hn => hw n (List.mem_append.2 (.inl hn))
        refine ⟨by omega, ys ++ zs, by rw [e1, e2]; simp, ?_, fun q hq => (List.mem_append.1 hq).elim (w1 q) (w2 q)⟩
        have := d1.append d2
        have e3 : (cs.take n).drop o = (cs.drop o).take (P.cellsOf t) ++ (cs.take n).drop (o + P.cellsOf t) := by
          rw [List.drop_take, List.drop_take, ← List.drop_drop, show n - o = P.cellsOf t + (n - (o + P.cellsOf t)) by omega, List.take_add]
        rw [e3]
        exact this
    · cases h

theorem cell_at {b o : Nat} {v : Value} (h : w.cell? ⟨b, o, none⟩ = some v) : ∃ arr E fr, w.heap[b]? = some (.cells arr E fr) ∧ arr[o]? = some v := by
  unfold World.cell? at h
  cases hb : w.heap[b]? with
  | none => simp [hb] at h
  | some ob =>
    cases ob with
    | cells arr E fr => exact ⟨arr, E, fr, rfl, by simpa [hb] using h⟩
    | _ => simp [hb] at h

theorem drop_take_flat {T : Ty} {l : List Value} {o : Nat} : ∀ (xs : List T.den), (∀ i, i < xs.length → ∀ j, j < T.size → l[o + (i * T.size + j)]? = (T.cells (xs.getD i T.dflt))[j]?) → (l.drop o).take (xs.length * T.size) = xs.flatMap T.cells := by
  intro xs hx
  induction xs generalizing o with
  | nil => simp
  | cons x xs ih =>
    have h1 := ih (o := o + T.size) fun i hi j hj => by
      have := hx (i + 1) (by simpa using hi) j hj
      rw [Nat.add_mul, Nat.one_mul] at this
      rw [show o + T.size + (i * T.size + j) = o + (i * T.size + T.size + j) by omega, this]
      simp [List.getD]
    rw [List.flatMap_cons, List.length_cons, Nat.add_mul, Nat.one_mul, Nat.add_comm, List.take_add, List.drop_drop, h1]
    congr 1
    apply List.ext_getElem?
    intro j
    by_cases hj : j < T.size
    · have := hx 0 (by simp) j hj
      rw [Nat.zero_mul, Nat.zero_add] at this
      simpa [hj, List.getD] using this
    · rw [List.getElem?_take, if_neg hj, List.getElem?_eq_none (by rw [Ty.cells_length]; omega)]

/-- A slice that reads. -/
theorem opens_slice {bo : Ty → Nat} {t e : TypeId} {T : Ty} (hu : P.underlying t = some (.slice e)) (hc : chkTy P 12 e T = true) (hsz : P.cellsOf e = T.size) (hbo : P.bytesOf e = bo T) (hpos : T.size ≠ 0)
    {fuel : Nat} {cs : List Value} {d : DataW H} {ps : List MemPlace} (ht : DataW.trod enc P w 0 (fun _ => true) held fuel t cs = some (d, ps)) (hw : ∀ n ∈ d.weights P t, n ≤ reachBytes) :
    ∃ xs : List T.den, DeepD w (.list T) xs cs ∧ DT.wf bo (.list T) xs := by
  rcases DataW.trod_slice hu ht with ⟨rfl, hx⟩ | ⟨a, len, cap, elems, rest, n, rfl, rfl, hx, hb, hlc, hcap, helen, hel, hrest, _⟩
  · exact ⟨[], ⟨none, 0, rfl, ⟨Nat.le_refl _, .inl rfl⟩⟩, by simp, fun x hx => by cases hx⟩
  · cases hx
    obtain ⟨hrlen, hrest⟩ := hrest rfl
    simp only [DataW.weights, hu] at hw
    -- each element, spare ones too
    have hall : ∀ i, i < cap → ∃ x : T.den, w.cells? 0 (a.add (i * P.cellsOf e)) (P.cellsOf e) = some (T.cells x) ∧ (i < len → T.wf x) := fun i hi => by
      by_cases hil : i < len
      · have h1 := hel i hil
        obtain ⟨y, hy⟩ : ∃ y, elems[i]? = some y := ⟨elems[i], List.getElem?_eq_getElem (by omega)⟩
        rw [hy, Option.bind_eq_some_iff] at h1
        obtain ⟨cs, g1, g2⟩ := h1
        obtain ⟨x, e1, wx⟩ := opens_ty 12 e T hc n cs y.1 y.2 g2 fun m hm => hw m (by
          refine List.mem_cons_of_mem _ (List.mem_append.2 (.inl ?_))
          exact weightsAll_mem hm (List.mem_map.2 ⟨y, List.mem_of_getElem? hy, rfl⟩))
        subst e1
        exact ⟨x, g1, fun _ => wx⟩
      · have h1 := hrest (i - len) (by omega)
        rw [show len + (i - len) = i by omega] at h1
        obtain ⟨y, hy⟩ : ∃ y, rest[i - len]? = some y := ⟨rest[i - len], List.getElem?_eq_getElem (by omega)⟩
        rw [hy, Option.bind_eq_some_iff] at h1
        obtain ⟨cs, g1, g2⟩ := h1
        obtain ⟨x, e1, wx⟩ := opens_ty 12 e T hc n cs y.1 y.2 g2 fun m hm => hw m (by
          refine List.mem_cons_of_mem _ (List.mem_append.2 (.inr ?_))
          exact weightsAll_mem hm (List.mem_map.2 ⟨y, List.mem_of_getElem? hy, rfl⟩))
        subst e1
        exact ⟨x, g1, fun h => absurd h hil⟩
    by_cases hc0 : cap = 0
    · subst hc0
      have : len = 0 := by omega
      subst this
      exact ⟨[], ⟨some a, 0, rfl, ⟨Nat.le_refl _, .inl rfl⟩⟩, by simp, fun x hx => by cases hx⟩
    obtain ⟨b, o, spot⟩ := a
    obtain ⟨g, hg⟩ : ∃ g : Nat → T.den, ∀ i, i < cap → w.cells? 0 ((⟨b, o, spot⟩ : Addr).add (i * P.cellsOf e)) (P.cellsOf e) = some (T.cells (g i)) ∧ (i < len → T.wf (g i)) :=
      ⟨fun i => if h : i < cap then Classical.choose (hall i h) else T.dflt, fun i hi => by simp only [hi, dif_pos]; exact Classical.choose_spec (hall i hi)⟩
    have hspot : spot = none := by
      obtain ⟨_, h2, h3⟩ := World.cells?_some (hg 0 (by omega)).1
      have := h3 0 (by omega)
      rw [List.getElem?_eq_getElem (by omega)] at this
      simpa [Addr.add] using World.cell?_spot this
    subst hspot
    have hcell : ∀ i, i < cap → ∀ j, j < T.size → w.cell? ⟨b, o + (i * T.size + j), none⟩ = (T.cells (g i))[j]? := fun i hi j hj => by
      obtain ⟨_, h2, h3⟩ := World.cells?_some (hg i hi).1
      have := h3 j (by rw [hsz]; exact hj)
      rw [hsz] at this
      rw [← this, Go.WideShapes.add_plain, Go.WideShapes.add_plain, Nat.add_assoc]
    obtain ⟨arr, E, fr, hblk, _⟩ := cell_at (show w.cell? ⟨b, o, none⟩ = some ((T.cells (g 0))[0]'(by rw [Ty.cells_length]; omega)) by
      have := hcell 0 (by omega) 0 (by omega)
      rw [List.getElem?_eq_getElem (by rw [Ty.cells_length]; omega)] at this
      simpa using this)
    have harr : ∀ i, i < cap → ∀ j, j < T.size → arr.toList[o + (i * T.size + j)]? = (T.cells (g i))[j]? := fun i hi j hj => by
      have := hcell i hi j hj
      rw [cell_of hblk] at this
      simpa using this
    have hsize : o + cap * T.size ≤ arr.size := by
      obtain ⟨k, rfl⟩ : ∃ k, cap = k + 1 := ⟨cap - 1, by omega⟩
      have := harr k (by omega) (T.size - 1) (by omega)
      rw [List.getElem?_eq_getElem (l := T.cells (g k)) (by rw [Ty.cells_length]; omega)] at this
      have := (List.getElem?_eq_some_iff.1 this).1
      rw [Nat.add_mul, Nat.one_mul]
      simp at this; omega
    have hlist : ((List.range len).map g).length = len := by simp
    refine ⟨(List.range len).map g, ⟨some ⟨b, o, none⟩, cap, by rw [hlist], ?_⟩, ?_, fun x hx => ?_⟩
    · rw [ListAt, hlist]
      refine ⟨hlc, .inr ⟨b, o, arr, E, fr, arr.toList.take o, arr.toList.drop (o + len * T.size), rfl, hblk, ?_, ?_, hsize⟩⟩
      · have hmul : len * T.size ≤ cap * T.size := Nat.mul_le_mul_right _ hlc
        have := drop_take_flat (T := T) (l := arr.toList) (o := o) ((List.range len).map g) fun i hi j hj => by
          rw [hlist] at hi
          rw [harr i (by omega) j hj]
          simp [List.getD, hi]
        rw [hlist] at this
        rw [← this, ← List.drop_drop, List.append_assoc, List.take_append_drop, List.take_append_drop]
      · have hmul : len * T.size ≤ cap * T.size := Nat.mul_le_mul_right _ hlc
        simp; omega
    · rw [hlist]
      have := hw ((elems.length + rest.length) * P.bytesOf e) (by simp)
      rw [helen, hbo] at this
      exact Nat.le_trans (Nat.mul_le_mul_right _ (by omega)) this
    · simp only [List.mem_map, List.mem_range] at hx
      obtain ⟨i, hi, rfl⟩ := hx
      exact (hg i (by omega)).2 hi

theorem opens_p {bo : Ty → Nat} : ∀ (d : Nat) (t : TypeId), OpensP enc P bo w held t (chkP P bo d t)
  | 0, _ => fun ds r _ _ _ _ h => by cases h
  | d + 1, t => by
    intro ds r fuel cs dd ps h hlen htrod hw
    unfold chkP at h
    have hleaf : ∀ {n : Nat}, leafP P n t ds = some r → ∃ xs : List ((d : DT) × d.den), ds = xs.map (·.1) ++ r ∧ DeepS w xs cs ∧ ∀ q ∈ xs, q.1.wf bo q.2 := fun {n} h => by
      unfold leafP at h
      split at h
      · next T r' =>
        split at h
        · next hc => cases h; exact one_piece hc.1 htrod hw
        · cases h
      · cases h
    split at h
    · exact hleaf h
    · exact hleaf h
    · exact hleaf h
    · next n e hu =>
      split at h
      · exact hleaf h
      · split at h
        · next hsz =>
          obtain ⟨xs, m, rfl, hx, hl, hxl, hel⟩ := DataW.trod_array hu htrod
          cases hx
          have hwe : (DataW.agg (xs.map (·.1))).weights P t = DataW.weightsAll P e (xs.map (·.1)) := by unfold DataW.weights; rw [hu]
          rw [hwe] at hw
          exact opens_times (opens_p d e) n ds r cs xs h (by rw [hlen, hsz]) hel hxl hw
        · cases h
    · next e hu =>
      split at h
      · next T r' =>
        split at h
        · next hc =>
          obtain ⟨h1, h2, h3, h4, h5⟩ := hc
          cases h
          obtain ⟨xs, g1, g2⟩ := opens_slice (bo := bo) hu h1 h2 h3 h5 htrod hw
          exact ⟨[⟨.list T, xs⟩], rfl, ⟨cs, [], by simp, g1, rfl⟩, fun q hq => by simp only [List.mem_singleton] at hq; subst hq; exact g2⟩
        · cases h
      · cases h
    · next fs hu =>
      split at h
      · next n r' hcp =>
        split at h
        · next hn =>
          cases h
          obtain ⟨xs, m, rfl, hx, hl, hxl, hel⟩ := DataW.trod_struct hu htrod
          cases hx
          rw [weights_each hu] at hw
          obtain ⟨_, ys, e1, d1, w1⟩ := opens_ps (cs := cs) (m := m) (fun t => opens_p d t) _ 0 n ds r xs hcp (by omega) (fun i p hp => by
            simp only [List.getElem?_map, Option.map_eq_some_iff] at hp
            obtain ⟨f, hf, rfl⟩ := hp
            exact hel i f (by simpa using hf)) (by simp [hxl]) (by simpa [Function.comp_def] using hw)
          rw [List.drop_zero, List.take_of_length_le (by omega)] at d1
          exact ⟨ys, e1, d1, w1⟩
        · cases h
      · cases h
    · cases h

end
end Go.Sx
