/-
  How the relation of Sx between abstract and real states stands through puts, new blocks, stores and worlds that keep what was there.
-/
import Derived.Test.YtagooceoocohpaaSyA
set_option linter.unusedVariables false
namespace Go.Sx

/-- Of the object i nothing has turned that a mention of it tells. -/
def KeepI (φ : Nat → Place) (m : Nat → Option AObj) (φ' : Nat → Place) (m' : Nat → Option AObj) (i : Nat) : Prop :=
  φ' i = φ i ∧ ∀ T xs o, m' i = some (.list T xs o) → ∃ T' ys o', m i = some (.list T' ys o') ∧ ys.length = xs.length

theorem KeepI.refl {φ m i} : KeepI φ m φ m i := ⟨rfl, fun T xs o h => ⟨T, xs, o, h, rfl⟩⟩

theorem Ck.R.keep {φ m φ' m'} {c : Ck} {l : List Value} (hk : ∀ i ∈ c.ids, KeepI φ m φ' m' i) (h : c.R φ m l) : c.R φ' m' l := by
  cases c <;> simp only [Ck.R] at h ⊢ <;> (try exact h)
  case clo f caps =>
    obtain ⟨vs, rfl, h⟩ := h
    exact ⟨vs, rfl, h.imp fun i hi v ⟨b, hb, hv⟩ => ⟨b, by rw [(hk i hi).1]; exact hb, hv⟩⟩
  case ptr i off => obtain ⟨b, hb, rfl⟩ := h; exact ⟨b, by rw [(hk i (by simp [Ck.ids])).1]; exact hb, rfl⟩
  case pel i off n e => obtain ⟨b, hb, h⟩ := h; exact ⟨b, by rw [(hk i (by simp [Ck.ids])).1]; exact hb, h⟩
  case pls i sz e fo => obtain ⟨b, o, hb, h⟩ := h; exact ⟨b, o, by rw [(hk i (by simp [Ck.ids])).1]; exact hb, h⟩
  case win i sz lo n =>
    obtain ⟨a, c, h1, h2, h3, h4, h6, h5⟩ := h
    refine ⟨a, c, h1, h2, h3, h4, by rw [(hk i (by simp [Ck.ids])).1]; exact h6, h5.imp id fun ⟨b, o, hb, ha⟩ => ⟨b, o, by rw [(hk i (by simp [Ck.ids])).1]; exact hb, ha⟩⟩
  case awin i off N lo n =>
    obtain ⟨a, c, h1, h2, h3, h4, h6, h5⟩ := h
    refine ⟨a, c, h1, h2, h3, h4, h6, h5.imp id fun ⟨hc, b, hb, ha⟩ => ⟨hc, b, by rw [(hk i (by simp [Ck.ids])).1]; exact hb, ha⟩⟩
  case mp i => obtain ⟨b, hb, h⟩ := h; exact ⟨b, by rw [(hk i (by simp [Ck.ids])).1]; exact hb, h⟩
  case sl i =>
    obtain ⟨h1, h2⟩ := hk i (by simp [Ck.ids])
    cases hm : m' i with
    | none =>
      simp only
      cases hm0 : m i with
      | none => simp only [hm0] at h; exact h
      | some o => cases o with
        | var cs => simp only [hm0] at h; exact h
        | list T xs own => simp only [hm0] at h; exact ⟨_, h, trivial⟩
        | map K V es => simp only [hm0] at h; exact h
    | some o => cases o with
      | var cs =>
        simp only
        cases hm0 : m i with
        | none => simp only [hm0] at h; exact h
        | some o => cases o with
          | var cs => simp only [hm0] at h; exact h
          | list T xs own => simp only [hm0] at h; exact ⟨_, h, trivial⟩
          | map K V es => simp only [hm0] at h; exact h
      | map K V es =>
        simp only
        cases hm0 : m i with
        | none => simp only [hm0] at h; exact h
        | some o => cases o with
          | var cs => simp only [hm0] at h; exact h
          | list T xs own => simp only [hm0] at h; exact ⟨_, h, trivial⟩
          | map K V es => simp only [hm0] at h; exact h
      | list T xs own =>
        obtain ⟨T', ys, o', hm0, hlen⟩ := h2 T xs own hm
        simp only [hm0] at h
        simp only [h1, h, hlen]

theorem FlatR.keep {φ m φ' m'} : ∀ {cs : List Ck} {l : List Value}, (∀ i ∈ Cks.ids cs, KeepI φ m φ' m' i) → FlatR φ m cs l → FlatR φ' m' cs l
  | [], l, _, h => h
  | c :: cs, l, hk, ⟨l1, l2, e, h1, h2⟩ =>
    ⟨l1, l2, e, Ck.R.keep (fun i hi => hk i (by simp [Cks.ids, hi])) h1, FlatR.keep (fun i hi => hk i (by simp [Cks.ids, hi])) h2⟩

theorem SV.R.keep {φ m φ' m'} {s : SV} {v : Value} (hk : ∀ i ∈ s.ids, KeepI φ m φ' m' i) (h : s.R φ m v) : s.R φ' m' v := by
  cases s with
  | none => trivial
  | sc c => exact Ck.R.keep hk h
  | agg cs => obtain ⟨l, e, h⟩ := h; exact ⟨l, e, FlatR.keep hk h⟩
  | tup vs =>
    obtain ⟨l, e, h⟩ := h
    refine ⟨l, e, h.imp fun p hp v hv => ?_⟩
    have hk' : ∀ i ∈ Cks.ids p.2, KeepI φ m φ' m' i := fun i hi => hk i (by simp only [SV.ids, List.mem_flatMap]; exact ⟨p, hp, hi⟩)
    obtain ⟨b, cs⟩ := p
    cases b with
    | true => obtain ⟨l, e, h⟩ := hv; exact ⟨l, e, FlatR.keep hk' h⟩
    | false => exact FlatR.keep hk' hv

theorem ObjOk.keep {φ m φ' m' N F w w' i} {o : AObj} (hk : ∀ j ∈ o.ids, KeepI φ m φ' m' j) (hi : φ' i = φ i)
    (hb : ∀ b o', (φ i).base = some ⟨b, o', none⟩ → (∃ x, w.heap[b]? = some x) → w'.heap[b]? = w.heap[b]?) (h : ObjOk φ m N F w i o) : ObjOk φ' m' N F w' i o := by
  cases o with
  | var cs =>
    obtain ⟨b, arr, E, lo, hi', h1, h2, h3, h4, h5⟩ := h
    exact ⟨b, arr, E, lo, hi', by rw [hi]; exact h1, by rw [hb b 0 h1 ⟨_, h2⟩]; exact h2, FlatR.keep hk h3, h4, h5⟩
  | list T xs own =>
    rcases h with ⟨h1, h2⟩ | ⟨b, o, arr, E, lo, hi', pre, post, h1, h2, h3⟩
    · exact .inl ⟨h1, by rw [hi]; exact h2⟩
    · exact .inr ⟨b, o, arr, E, lo, hi', pre, post, by rw [hi]; exact h1, by rw [hb b o h1 ⟨_, h2⟩]; exact h2, by rw [hi]; exact h3⟩
  | map K V es =>
    obtain ⟨b, arr, clk, h1, h2, h3⟩ := h
    exact ⟨b, arr, clk, by rw [hi]; exact h1, by rw [hb b 0 h1 ⟨_, h2⟩]; exact h2, h3⟩

/-! ### Puts -/

def St.put (s : St) (d : Nat) (v : SV) : St := { s with fr := fun t => if t = d then v else s.fr t }

theorem Rel.put {w0 F φ s a w} (h : Rel w0 F φ s a w) {d : Nat} {sv : SV} {v : Value} (hd : d < s.n) (hv : sv.R φ s.mem.objs v)
    (hids : ∀ i ∈ sv.ids, s.mem.used i = true) : Rel w0 F φ (s.put d sv) (a.put (some d) v) w where
  defers := h.defers
  size := by simpa [Act.put, St.put] using h.size
  fr t := by
    simp only [St.put, Act.put, Array.getD_eq_getD_getElem?]
    by_cases e : t = d
    · subst e
      rw [if_pos rfl, Array.getElem?_setIfInBounds_self_of_lt (by rw [h.size]; exact hd)]
      exact hv
    · rw [if_neg e, Array.getElem?_setIfInBounds_ne (Ne.symm e)]
      have := h.fr t
      rwa [Array.getD_eq_getD_getElem?] at this
  frids t i hi := by
    simp only [St.put] at hi
    split at hi
    · exact hids i hi
    · exact h.frids t i hi
  objids := h.objids
  usedo := h.usedo
  mem := h.mem
  inj := h.inj
  ro := h.ro
  fb := h.fb
  old := h.old
  pinned := h.pinned

/-- A slot that is told nothing of. -/
theorem Rel.putNone {w0 F φ s a w} (h : Rel w0 F φ s a w) {d : Nat} (v : Value) (hd : d < s.n) : Rel w0 F φ (s.put d .none) (a.put (some d) v) w :=
  h.put hd trivial (by simp [SV.ids])

/-! ### Worlds -/

/-- A world with the same heap. -/
theorem Rel.world {w0 F φ s a w w'} (h : Rel w0 F φ s a w) (hh : w'.heap = w.heap) (ho : w'.os = w.os) (ht : w'.tape = w.tape) (hp : w'.output = w.output) : Rel w0 F φ s a w' where
  defers := h.defers
  size := h.size
  fr := h.fr
  frids := h.frids
  objids := h.objids
  usedo := h.usedo
  mem i o hi := by
    have := h.mem i o hi
    cases o <;> simpa [ObjOk, hh] using this
  inj := h.inj
  ro := h.ro
  fb := h.fb
  old := h.old.trans ⟨ho, ht, hp, by rw [hh]; exact Nat.le_refl _, fun k _ _ => by rw [hh]⟩
  pinned := h.pinned

theorem ObjOk.base_lt {φ m N F w i b o'} {o : AObj} (h : ObjOk φ m N F w i o) (hb : (φ i).base = some ⟨b, o', none⟩) :
    (∃ T xs ow, o = .list T xs ow ∧ (φ i).cap = 0) ∨ b < w.heap.size := by
  cases o with
  | var cs =>
    obtain ⟨b', arr, E, lo, hi, h1, h2, _⟩ := h
    rw [hb] at h1; simp at h1; obtain ⟨rfl, _⟩ := h1
    exact .inr (by rcases Nat.lt_or_ge b w.heap.size with h | h; exact h; simp [Array.getElem?_eq_none h] at h2)
  | list T xs own =>
    rcases h with ⟨h1, h2⟩ | ⟨b', o, arr, E, lo, hi, pre, post, h1, h2, _⟩
    · exact .inl ⟨T, xs, own, rfl, h2⟩
    · rw [hb] at h1; simp at h1; obtain ⟨rfl, _⟩ := h1
      exact .inr (by rcases Nat.lt_or_ge b w.heap.size with h | h; exact h; simp [Array.getElem?_eq_none h] at h2)
  | map K V es =>
    obtain ⟨b', arr, clk, h1, h2, _⟩ := h
    rw [hb] at h1; simp at h1; obtain ⟨rfl, _⟩ := h1
    exact .inr (by rcases Nat.lt_or_ge b w.heap.size with h | h; exact h; simp [Array.getElem?_eq_none h] at h2)

theorem ownBlock.lt {w0 F φ s a w i b} (h : Rel w0 F φ s a w) (hb : ownBlock φ s.mem.objs i b) : b < w.heap.size := by
  rcases hb with ⟨cs, hm, hb⟩ | ⟨T, xs, o, hm, hb, hc⟩ | ⟨K, V, es, hm, hb⟩
  · rcases (h.mem i _ hm).base_lt hb with ⟨_, _, _, h, _⟩ | h
    · cases h
    · exact h
  · rcases (h.mem i _ hm).base_lt hb with ⟨_, _, _, _, h0⟩ | h
    · exact absurd h0 hc
    · exact h
  · rcases (h.mem i _ hm).base_lt hb with ⟨_, _, _, h, _⟩ | h
    · cases h
    · exact h

def Mem.add (m : Mem) (i : Nat) (o : AObj) : Mem := { objs := fun j => if j = i then some o else m.objs j, used := fun j => if j = i then true else m.used j, tmps := m.tmps }

def updP (φ : Nat → Place) (i : Nat) (p : Place) : Nat → Place := fun j => if j = i then p else φ j

/-- A new object, whose block (if it has one) is a new one; all old blocks are as they were. -/
theorem Rel.new {w0 F φ s a w w'} (h : Rel w0 F φ s a w) {i : Nat} (hi : s.mem.used i = false) {o : AObj} {p : Place}
    (hold : Old (fun _ => False) w w') (hok : ObjOk (updP φ i p) (s.mem.add i o).objs w0.heap.size F w' i o) (hids : ∀ j ∈ o.ids, s.mem.used j = true)
    (hfresh : ∀ b o', p.base = some ⟨b, o', none⟩ → p.cap ≠ 0 ∨ (∃ cs, o = .var cs) ∨ (∃ K V es, o = .map K V es) → w.heap.size ≤ b)
    (hro : ∀ T xs, o = .list T xs false → (xs = [] ∧ p.cap = 0)) :
    Rel w0 F (updP φ i p) { s with mem := s.mem.add i o } a w' := by
  have hno : ∀ j, s.mem.used j = true → j ≠ i := fun j hj e => by subst e; rw [hi] at hj; cases hj
  have hkeep : ∀ j, j ≠ i → KeepI φ s.mem.objs (updP φ i p) (s.mem.add i o).objs j := fun j hj =>
    ⟨by simp [updP, hj], fun T xs ow hm => ⟨T, xs, ow, by simpa [Mem.add, hj] using hm, rfl⟩⟩
  have hown : ∀ j b, j ≠ i → ownBlock (updP φ i p) (s.mem.add i o).objs j b → ownBlock φ s.mem.objs j b := fun j b hj hb => by
    simpa [ownBlock, updP, Mem.add, hj] using hb
  have hnew : ∀ b, ownBlock (updP φ i p) (s.mem.add i o).objs i b → w.heap.size ≤ b := fun b hb => by
    rcases hb with ⟨cs, hm, hb⟩ | ⟨T, xs, o', hm, hb, hc⟩ | ⟨K, V, es, hm, hb⟩
    · simp [updP, Mem.add] at hb hm
      exact hfresh b 0 hb (.inr (.inl ⟨cs, hm⟩))
    · simp [updP] at hb hc
      exact hfresh b o' hb (.inl hc)
    · simp [updP, Mem.add] at hb hm
      exact hfresh b 0 hb (.inr (.inr ⟨K, V, es, hm⟩))
  exact {
    defers := h.defers
    size := h.size
    fr := fun t => (h.fr t).keep fun j hj => hkeep j (hno j (h.frids t j hj))
    frids := fun t j hj => by
      simp only [Mem.add]; split
      · rfl
      · exact h.frids t j hj
    objids := fun j ob hm k hk => by
      simp only [Mem.add] at hm ⊢
      split
      · rfl
      · split at hm
        · simp at hm; subst hm; exact hids k hk
        · exact h.objids j ob hm k hk
    usedo := fun j ob hm => by
      simp only [Mem.add] at hm ⊢
      split
      · rfl
      · rename_i hne; rw [if_neg hne] at hm; exact h.usedo j ob hm
    mem := fun j ob hm => by
      by_cases e : j = i
      · subst e
        simp [Mem.add] at hm; subst hm
        exact hok
      · have hm' : s.mem.objs j = some ob := by simpa [Mem.add, e] using hm
        refine (h.mem j ob hm').keep (fun k hk => hkeep k (hno k (h.objids j ob hm' k hk))) (by simp [updP, e]) (fun b o' _ ⟨x, hx⟩ => ?_)
        refine hold.block b ?_ (fun hf => hf)
        rcases Nat.lt_or_ge b w.heap.size with h' | h'
        · exact h'
        · simp [Array.getElem?_eq_none h'] at hx
    inj := fun j k b hj hk => by
      by_cases ej : j = i <;> by_cases ek : k = i
      · rw [ej, ek]
      · subst ej
        have h1 := hnew b hj
        have h2 := ownBlock.lt h (hown k b ek hk)
        omega
      · subst ek
        have h1 := hnew b hk
        have h2 := ownBlock.lt h (hown j b ej hj)
        omega
      · exact h.inj j k b (hown j b ej hj) (hown k b ek hk)
    ro := fun j T xs hm => by
      by_cases e : j = i
      · subst e
        simp [Mem.add] at hm
        refine .inr (.inl ?_)
        have := hro T xs hm
        simpa [updP] using this
      · have := h.ro j T xs (by simpa [Mem.add, e] using hm)
        simpa [updP, e, Mem.add] using this
    fb := h.fb
    old := h.old.trans ⟨hold.os, hold.tape, hold.output, hold.size, fun k hk _ => hold.block k hk (fun hf => hf)⟩
    pinned := fun q hq => by
      obtain ⟨h1, h2⟩ := h.pinned q hq
      have hne := hno _ h2
      exact ⟨by simp [updP, hne, h1], by simp only [Mem.add]; split; rfl; exact h2⟩ }

/-- A store into the block of an object that may be written: its new object, its new cells; lists keep their lengths. -/
theorem Rel.write {w0 F φ s a w w'} (h : Rel w0 F φ s a w) (hT : s.mem.tmps = [] ∨ w' = w) {i b : Nat} {o o' : AObj} (hm : s.mem.objs i = some o) (hb : ownBlock φ s.mem.objs i b)
    (hother : ∀ k, k ≠ b → w'.heap[k]? = w.heap[k]?) (hsize : w'.heap.size = w.heap.size) (hos : w'.os = w.os) (htape : w'.tape = w.tape) (hout : w'.output = w.output)
    (hok : ObjOk φ (s.mem.add i o').objs w0.heap.size F w' i o') (hids : ∀ j ∈ o'.ids, s.mem.used j = true)
    (hlen : ∀ T xs ow, o' = .list T xs ow → ∃ T' ys ow', o = .list T' ys ow' ∧ ys.length = xs.length ∧ ow = true)
    (hvar : ∀ cs, o' = .var cs → ∃ ds, o = .var ds) (hmap : ∀ K V es, o' = .map K V es → ∃ K' V' es', o = .map K' V' es') :
    Rel w0 F φ { s with mem := { s.mem with objs := (s.mem.add i o').objs } } a w' := by
  have hkeep : ∀ j, KeepI φ s.mem.objs φ (s.mem.add i o').objs j := fun j => by
    refine ⟨rfl, fun T xs ow hj => ?_⟩
    by_cases e : j = i
    · subst e
      simp [Mem.add] at hj
      obtain ⟨T', ys, ow', h1, h2, _⟩ := hlen T xs ow hj
      exact ⟨T', ys, ow', by rw [hm, h1], h2⟩
    · exact ⟨T, xs, ow, by simpa [Mem.add, e] using hj, rfl⟩
  have hown : ∀ j b', ownBlock φ (s.mem.add i o').objs j b' → ownBlock φ s.mem.objs j b' := fun j b' hj => by
    by_cases e : j = i
    · subst e
      rcases hj with ⟨cs, h1, h2⟩ | ⟨T, xs, oo, h1, h2, h3⟩ | ⟨K, V, es, h1, h2⟩
      · simp [Mem.add] at h1
        obtain ⟨ds, hd⟩ := hvar cs h1
        exact .inl ⟨ds, by rw [hm, hd], h2⟩
      · simp [Mem.add] at h1
        obtain ⟨T', ys, ow', h4, _, h5⟩ := hlen T xs true h1
        rcases hb with ⟨cs, g1, g2⟩ | ⟨T2, xs2, oo2, g1, g2, g3⟩ | ⟨K, V, es, g1, g2⟩
        · rw [hm, h4] at g1; cases g1
        · rw [hm] at g1
          exact .inr (.inl ⟨T2, xs2, oo, by rw [hm]; exact g1, h2, h3⟩)
        · rw [hm, h4] at g1; cases g1
      · simp [Mem.add] at h1
        obtain ⟨K', V', es', hd⟩ := hmap K V es h1
        exact .inr (.inr ⟨K', V', es', by rw [hm, hd], h2⟩)
    · simpa [ownBlock, Mem.add, e] using hj
  have hblk : w0.heap.size ≤ b ∨ F b := by
    rcases hb with ⟨cs, g1, g2⟩ | ⟨T2, xs2, oo2, g1, g2, g3⟩ | ⟨K, V, es, g1, g2⟩
    rotate_left 2
    · obtain ⟨b', arr, clk, q1, q2, q3, q4, q5⟩ := h.mem i _ g1
      rw [g2] at q1; simp at q1; subst q1; exact q5
    · obtain ⟨b', arr, E, lo, hi, q1, q2, q3, q4, q5⟩ := h.mem i _ g1
      rw [g2] at q1; simp at q1; subst q1; exact q5
    · rcases h.mem i _ g1 with ⟨_, q⟩ | ⟨b', oo, arr, E, lo, hi, pre, post, q1, q2, q3, q4, q5, q6⟩
      · exact absurd q g3
      · rw [g2] at q1; simp at q1; obtain ⟨rfl, _⟩ := q1; exact (q6.2 rfl).2
  exact {
    defers := h.defers
    size := h.size
    fr := fun t => (h.fr t).keep fun j _ => hkeep j
    frids := h.frids
    objids := fun j ob hmj k hk => by
      by_cases e : j = i
      · subst e; simp [Mem.add] at hmj; subst hmj; exact hids k hk
      · exact h.objids j ob (by simpa [Mem.add, e] using hmj) k hk
    usedo := fun j ob hmj => by
      by_cases e : j = i
      · subst e; exact h.usedo j o hm
      · exact h.usedo j ob (by simpa [Mem.add, e] using hmj)
    mem := fun j ob hmj => by
      by_cases e : j = i
      · subst e; simp [Mem.add] at hmj; subst hmj; exact hok
      · have hm' : s.mem.objs j = some ob := by simpa [Mem.add, e] using hmj
        have hcap0 : ∀ T xs ow, ob = .list T xs ow → (φ j).cap = 0 → ObjOk φ (s.mem.add i o').objs w0.heap.size F w' j ob := fun T xs ow eo hc => by
          subst eo
          rcases h.mem j _ hm' with ⟨q1, q2⟩ | ⟨b', oo, arr, E, lo, hi, pre, post, q1, q2, q3, q4, q5, q6⟩
          · exact .inl ⟨q1, q2⟩
          · exact .inl ⟨List.length_eq_zero_iff.1 (by omega), hc⟩
        by_cases hz : (∃ T xs ow, ob = .list T xs ow) ∧ (φ j).cap = 0
        · obtain ⟨⟨T, xs, ow, eo⟩, hc⟩ := hz
          exact hcap0 T xs ow eo hc
        rcases hT with hT | hT
        rotate_left
        · exact (h.mem j ob hm').keep (fun k _ => hkeep k) rfl (fun b' o'' _ _ => by rw [hT])
        refine (h.mem j ob hm').keep (fun k _ => hkeep k) rfl (fun b' o'' hb' ⟨x, hx⟩ => hother b' fun eb => ?_)
        subst eb
        -- j's block is b: then j is i, or read-only (then b is old)
        cases ob with
        | var cs => exact e (h.inj j i b' (.inl ⟨cs, hm', by
            obtain ⟨b2, arr, E, lo, hi, q1, _⟩ := h.mem j _ hm'
            rw [hb'] at q1; simp at q1; obtain ⟨rfl, rfl⟩ := q1; exact hb'⟩) hb)
        | map K V es => exact e (h.inj j i b' (.inr (.inr ⟨K, V, es, hm', by
            obtain ⟨b2, arr, clk, q1, _⟩ := h.mem j _ hm'
            rw [hb'] at q1; simp at q1; obtain ⟨rfl, rfl⟩ := q1; exact hb'⟩)) hb)
        | list T xs ow =>
          have hc : (φ j).cap ≠ 0 := fun hc => hz ⟨⟨T, xs, ow, rfl⟩, hc⟩
          cases ow with
          | true => exact e (h.inj j i b' (.inr (.inl ⟨T, xs, o'', hm', hb', hc⟩)) hb)
          | false =>
            rcases h.ro j T xs hm' with ht | ⟨_, hc'⟩ | ⟨b2, o2, hb2, hlt, hnF⟩
            · rw [hT] at ht; cases ht
            · exact hc hc'
            · rw [hb'] at hb2; simp at hb2; obtain ⟨rfl, _⟩ := hb2
              rcases hblk with q | q
              · omega
              · exact hnF q
    inj := fun j k b' hj hk => h.inj j k b' (hown j b' hj) (hown k b' hk)
    ro := fun j T xs hmj => by
      by_cases e : j = i
      · subst e
        simp [Mem.add] at hmj
        obtain ⟨_, _, _, _, _, h5⟩ := hlen T xs false hmj
        cases h5
      · exact h.ro j T xs (by simpa [Mem.add, e] using hmj)
    fb := h.fb
    old := ⟨hos.trans h.old.os, htape.trans h.old.tape, hout.trans h.old.output, by rw [hsize]; exact h.old.size, fun k hk hf => (hother k fun e => by
      subst e
      rcases hblk with q | q
      · omega
      · exact hf q).trans (h.old.block k hk hf)⟩
    pinned := h.pinned }

end Go.Sx
