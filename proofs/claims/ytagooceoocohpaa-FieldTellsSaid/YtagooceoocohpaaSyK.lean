/-
  append and copy.
-/
import Derived.Test.YtagooceoocohpaaSyJ
set_option linter.unusedVariables false
namespace Go.Sx

def castL (T T' : Ty) (xs : List T'.den) : Option (List T.den) := if h : T' = T then some (h ▸ xs) else none

theorem castL_spec {T T' : Ty} {xs : List T'.den} {ys : List T.den} (h : castL T T' xs = some ys) : T' = T ∧ HEq xs ys := by
  unfold castL at h
  split at h
  · next e => subst e; simp at h; subst h; exact ⟨rfl, HEq.rfl⟩
  · cases h

/-- Numbers as elements of a type, if it is that of numbers of this kind. -/
def asInts (T : Ty) (k : IntKind) (xs : List Int) : Option (List T.den) := castL T (.int k) xs

/-- A slice's elements. -/
def rowOf (V : Nat → Option AObj) (T : Ty) : Ck → Option (Bool × List T.den)
  | .nils => some (true, [])
  | .sl i => (match V i with
    | some (.list T' xs _) => (match castL T T' xs with | some ys => some (true, ys) | none => none)
    | _ => none)
  | .win i sz lo n => (match V i with
    | some (.list T' xs _) => if sz = T.size then (match castL T T' xs with | some ys => some (decide (lo.toNat + n.toNat ≤ xs.length), winOf ys lo n) | none => none) else none
    | _ => none)
  | .awin i off N lo n => (match V i with
    | some (.var cs) => (match midCks cs off N with
      | some [.arr k N' f] => if N' = N then (match asInts T k ((List.range n.toNat).map fun j => f (lo.toNat + j)) with
        | some ys => some (true, ys)
        | none => none) else none
      | _ => none)
    | _ => none)
  | .str s => (match asInts T .u8 (bytesOf s) with
    | some ys => some (true, ys)
    | none => none)
  | _ => none

/-- What an append goes onto: nothing; a list of the call's own; a window in one. -/
def baseOf (V : Nat → Option AObj) (T : Ty) : Ck → Option (Bool × Option Nat × List T.den)
  | .nils => some (true, none, [])
  | .sl i => (match V i with
    | some (.list T' xs true) => (match castL T T' xs with | some ys => some (true, some i, ys) | none => none)
    | _ => none)
  | .win i sz lo n => (match V i with
    | some (.list T' xs true) => if sz = T.size then (match castL T T' xs with | some ys => some (decide (lo.toNat + n.toNat ≤ xs.length), some i, winOf ys lo n) | none => none) else none
    | _ => none)
  | _ => none

/-- append: the object that goes, and the new one. -/
def appendOp (P : Program) (ρ : Operand → SV) (V : Nat → Option AObj) : Op → Option (Bool × Option Nat × AObj)
  | .call { callee := .builtin .append, args, argTypes } => (match args.toList, argTypes.toList with
    | [x, y], [tx, ty] => (match P.underlying tx, P.underlying ty with
      | some (.slice e), some d => (match d with
        | .int _ => none
        | _ => (match tyOf P 12 e, P.underlying e, zeroOf P e, ρ x, ρ y with
          | some T, some _, some z, .sc cx, .sc cy => if T.size = P.cellsOf e ∧ (T.dec1 z).isSome ∧ P.bytesOf e ≠ 0 then (match baseOf V T cx, rowOf V T cy with
            | some (b1, i, xs), some (b2, ys) => some (b1 && (b2 && decide ((xs.length + ys.length) * P.bytesOf e ≤ 140737488355328)), i, .list T (xs ++ ys) true)
            | _, _ => none) else none
          | _, _, _, _, _ => none))
      | _, _ => none)
    | _, _ => none)
  | _ => none

section
variable {P : Program} {φ : Nat → Place} {m : Nat → Option AObj} {N : Nat} {F : Nat → Prop} {w : World}

theorem winOf_cells {T : Ty} {xs : List T.den} {lo n : Int} (h : lo.toNat + n.toNat ≤ xs.length) :
    (winOf xs lo n).flatMap T.cells = ((xs.flatMap T.cells).drop (lo.toNat * T.size)).take (n.toNat * T.size) := by
  unfold winOf
  have h1 : xs = xs.take lo.toNat ++ xs.drop lo.toNat := (List.take_append_drop _ _).symm
  have h2 : xs.flatMap T.cells = (xs.take lo.toNat).flatMap T.cells ++ (xs.drop lo.toNat).flatMap T.cells := by rw [← List.flatMap_append, ← h1]
  have hl : ((xs.take lo.toNat).flatMap T.cells).length = lo.toNat * T.size := by rw [flatMap_length, List.length_take, Nat.min_eq_left (by omega)]
  rw [h2, ← hl, List.drop_left]
  have hd : xs.drop lo.toNat = (xs.drop lo.toNat).take n.toNat ++ (xs.drop lo.toNat).drop n.toNat := (List.take_append_drop _ _).symm
  have h3 : (xs.drop lo.toNat).flatMap T.cells = ((xs.drop lo.toNat).take n.toNat).flatMap T.cells ++ ((xs.drop lo.toNat).drop n.toNat).flatMap T.cells := by rw [← List.flatMap_append, ← hd]
  have hl2 : (((xs.drop lo.toNat).take n.toNat).flatMap T.cells).length = n.toNat * T.size := by rw [flatMap_length, List.length_take, List.length_drop, Nat.min_eq_left (by omega)]
  rw [h3, ← hl2, List.take_left]

theorem firstCells_slice {T : Ty} {ys : List T.den} {a : Option Addr} {cap : Nat} (h : ys = [] ∨ ∃ b o arr E fr, a = some ⟨b, o, none⟩ ∧ w.heap[b]? = some (.cells arr E fr) ∧ o + ys.length * T.size ≤ arr.size ∧ (arr.toList.drop o).take (ys.length * T.size) = ys.flatMap T.cells) :
    ∀ n, n ≤ ys.length → (Builtin.firstCells T.size n (.slice a ys.length cap)).run P w = .ok ((ys.take n).flatMap T.cells).toArray w := by
  intro n hn
  rcases h with rfl | ⟨b, o, arr, E, fr, rfl, h1, h2, h3⟩
  · obtain rfl : n = 0 := by simpa using hn
    cases a with
    | none => rfl
    | some a => simp [Builtin.firstCells, loadCells, loadCellsFrom]
  · simp only [Builtin.firstCells]
    have hmul : n * T.size ≤ ys.length * T.size := Nat.mul_le_mul_right _ hn
    refine run_loadCells_at h1 (by omega) ?_
    have := winOf_cells (T := T) (xs := ys) (lo := 0) (n := n) (by simpa using hn)
    simp only [winOf, Int.toNat_zero, List.drop_zero, Int.toNat_natCast, Nat.zero_mul] at this
    rw [this, ← h3, List.take_take, Nat.min_eq_left hmul]

theorem list_at {i : Nat} {T : Ty} {xs : List T.den} {own : Bool} (hm : ∀ i o, m i = some o → ObjOk φ m N F w i o) (hV : m i = some (.list T xs own)) :
    xs = [] ∨ ∃ b o arr E fr, (φ i).base = some ⟨b, o, none⟩ ∧ w.heap[b]? = some (.cells arr E fr) ∧ o + xs.length * T.size ≤ arr.size ∧ (arr.toList.drop o).take (xs.length * T.size) = xs.flatMap T.cells := by
  by_cases hne : xs = []
  · exact .inl hne
  · obtain ⟨b, o, arr, E, fr, pre, post, q1, q2, q3, q4⟩ := list_cells (hm i _ hV) hne
    refine .inr ⟨b, o, arr, E, fr, q1, q2, ?_, ?_⟩
    · rw [← Array.length_toList, q3, List.length_append, List.length_append, flatMap_length]; omega
    · rw [q3, ← q4, List.append_assoc, List.drop_left, List.take_append_of_le_length (by rw [flatMap_length]; exact Nat.le_refl _), List.take_of_length_le (by rw [flatMap_length]; exact Nat.le_refl _)]

theorem win_at {i : Nat} {T : Ty} {xs : List T.den} {own : Bool} {lo n : Int} {b o : Nat} (hm : ∀ i o, m i = some o → ObjOk φ m N F w i o) (hV : m i = some (.list T xs own)) (hb : (φ i).base = some ⟨b, o, none⟩) (hle : lo.toNat + n.toNat ≤ xs.length) :
    winOf xs lo n = [] ∨ ∃ b' o' arr E fr, (some ⟨b, o + lo.toNat * T.size, none⟩ : Option Addr) = some ⟨b', o', none⟩ ∧ w.heap[b']? = some (.cells arr E fr) ∧ o' + (winOf xs lo n).length * T.size ≤ arr.size ∧
      (arr.toList.drop o').take ((winOf xs lo n).length * T.size) = (winOf xs lo n).flatMap T.cells := by
  rcases list_at hm hV with rfl | ⟨b', o', arr, E, fr, q1, q2, q3, q4⟩
  · left; simp [winOf]
  · right
    rw [hb] at q1; simp at q1; obtain ⟨rfl, rfl⟩ := q1
    have hmul : lo.toNat * T.size + n.toNat * T.size ≤ xs.length * T.size := by rw [← Nat.add_mul]; exact Nat.mul_le_mul_right _ hle
    refine ⟨b, o + lo.toNat * T.size, arr, E, fr, rfl, q2, by rw [winOf_length hle]; omega, ?_⟩
    rw [winOf_cells hle, winOf_length hle, ← q4, List.drop_take, List.take_take, Nat.min_eq_left (by omega), List.drop_drop]

theorem rowOf_cells {T : Ty} {c : Ck} {ys : List T.den} {val : Value} (hm : ∀ i o, m i = some o → ObjOk φ m N F w i o) (h : rowOf m T c = some (true, ys)) (hc : (SV.sc c).R φ m val) :
    (Builtin.lenOf val).run P w = .ok ys.length w ∧ ∀ n, n ≤ ys.length → (Builtin.firstCells T.size n val).run P w = .ok ((ys.take n).flatMap T.cells).toArray w := by
  unfold rowOf at h
  split at h
  · simp at h; subst h
    simp only [SV.R, Ck.R, List.cons.injEq, and_true] at hc
    subst hc
    exact ⟨rfl, fun n hn => by obtain rfl : n = 0 := by simpa using hn
                               rfl⟩
  · next i =>
    split at h
    · next T' xs own hV =>
      split at h
      · next zs hz =>
        obtain ⟨rfl, hh⟩ := castL_spec hz
        have := eq_of_heq hh; subst this
        obtain rfl : xs = ys := congrArg Prod.snd (Option.some.inj h)
        have hv := R_sl hV hc
        rw [hv]
        exact ⟨rfl, firstCells_slice (list_at hm hV)⟩
      · cases h
    · cases h
  · next i sz lo n =>
    split at h
    · next T' xs own hV =>
      split at h
      · next hsz =>
        subst hsz
        split at h
        · next zs hz =>
          obtain ⟨rfl, hh⟩ := castL_spec hz
          have := eq_of_heq hh; subst this
          obtain ⟨hle, hxs⟩ := Prod.mk.inj (Option.some.inj h)
          have hle : lo.toNat + n.toNat ≤ xs.length := of_decide_eq_true hle
          obtain rfl : winOf xs lo n = ys := hxs
          obtain ⟨a, c, ea, hc1, hlo, hn0, hcap, hd⟩ := hc
          simp at ea
          have hlen := winOf_length hle
          have hv : val = .slice a (winOf xs lo n).length c := by rw [hlen]; exact ea
          rw [hv]
          refine ⟨rfl, firstCells_slice ?_⟩
          rcases hd with hd | ⟨b, of, hb, rfl⟩
          · left; exact List.length_eq_zero_iff.1 (by omega)
          · exact win_at hm hV hb hle
        · cases h
      · cases h
    · cases h
  · next i off Nn lo n =>
    split at h
    · next cs hV =>
      split at h
      · next k' N' f hmid =>
        split at h
        · next hk =>
          subst hk
          split at h
          · next zs hz =>
            obtain ⟨rfl, hh⟩ := castL_spec hz
            have := eq_of_heq hh; subst this
            obtain rfl : (List.range n.toNat).map (fun j => f (lo.toNat + j)) = ys := congrArg Prod.snd (Option.some.inj h)
            have hi : intsOf m k' (.awin i off N' lo n) = some (true, (List.range n.toNat).map fun j => f (lo.toNat + j)) := by simp [intsOf, hV, hmid]
            obtain ⟨a, cap, ev, hd⟩ := intsOf_cells hm hi hc
            rw [ev]
            refine ⟨rfl, firstCells_slice (T := .int k') ?_⟩
            rcases hd with hd | ⟨b, o, arr, E, fr, h1, h2, h3, h4⟩
            · exact .inl hd
            · exact .inr ⟨b, o, arr, E, fr, h1, h2, by rw [show (Ty.int k').size = 1 from rfl, Nat.mul_one]; exact h3, by rw [flatMap_int, show (Ty.int k').size = 1 from rfl, Nat.mul_one]; exact h4⟩
          · cases h
        · cases h
      · cases h
    · cases h
  · next s =>
    split at h
    · next zs hz =>
      obtain ⟨rfl, hh⟩ := castL_spec hz
      have := eq_of_heq hh; subst this
      obtain rfl : bytesOf s = ys := congrArg Prod.snd (Option.some.inj h)
      rw [R_str hc]
      have hl : (bytesOf s).length = s.size := bytesOf_length s
      refine ⟨by simp only [Builtin.lenOf]; rw [show @List.length (Ty.int .u8).den (bytesOf s) = s.size from hl]; rfl, ?_⟩
      intro n hn
      rw [show @List.length (Ty.int .u8).den (bytesOf s) = s.size from hl] at hn
      simp only [Builtin.firstCells, Sem.run_pure]
      congr 1
      apply Array.toList_inj.1
      have he : (s.extract 0 n).data.toList = s.data.toList.take n := by simp
      have e2 : ((@List.take (Ty.int .u8).den n (bytesOf s)).flatMap (Ty.int .u8).cells) = ((bytesOf s).take n).map (Value.int .u8) := flatMap_int _
      rw [e2, Array.toList_map, he]
      simp [bytesOf, List.map_take, Function.comp_def]
    · cases h
  · cases h
end

section
variable {P : Program} {φ : Nat → Place} {s : St} {w0 : World} {F : Fp} {a : Act} {w : World}

def Mem.del (m : Mem) (i : Option Nat) : Mem := match i with
  | none => m
  | some i => { m with objs := fun j => if j = i then none else m.objs j }

/-- An object that is let go. -/
theorem Rel.del (h : Rel w0 F φ s a w) (i : Option Nat) : Rel w0 F φ { s with mem := s.mem.del i } a w := by
  cases i with
  | none => exact h
  | some i =>
    have hsub : ∀ j o, (s.mem.del (some i)).objs j = some o → s.mem.objs j = some o := fun j o hj => by
      simp only [Mem.del] at hj
      split at hj
      · cases hj
      · exact hj
    have hkeep : ∀ j, KeepI φ s.mem.objs φ (s.mem.del (some i)).objs j := fun j => ⟨rfl, fun T xs o hj => ⟨T, xs, o, hsub j _ hj, rfl⟩⟩
    have hown : ∀ j b, ownBlock φ (s.mem.del (some i)).objs j b → ownBlock φ s.mem.objs j b := fun j b hj => by
      rcases hj with ⟨cs, h1, h2⟩ | ⟨T, xs, o, h1, h2, h3⟩ | ⟨K, V, es, h1, h2⟩
      · exact .inl ⟨cs, hsub j _ h1, h2⟩
      · exact .inr (.inl ⟨T, xs, o, hsub j _ h1, h2, h3⟩)
      · exact .inr (.inr ⟨K, V, es, hsub j _ h1, h2⟩)
    exact {
      defers := h.defers
      size := h.size
      fr := fun t => (h.fr t).keep fun j _ => hkeep j
      frids := h.frids
      objids := fun j o hj => h.objids j o (hsub j o hj)
      usedo := fun j o hj => h.usedo j o (hsub j o hj)
      mem := fun j o hj => (h.mem j o (hsub j o hj)).keep (fun k _ => hkeep k) rfl (fun _ _ _ _ => rfl)
      inj := fun j k b hj hk => h.inj j k b (hown j b hj) (hown k b hk)
      ro := fun j T xs hj => h.ro j T xs (hsub j _ hj)
      fb := h.fb
      old := h.old
      pinned := h.pinned }

/-- A new object on a block that none owns, and that alone has turned. -/
theorem Rel.adopt {w' : World} {i b : Nat} {o : AObj} {p : Place} (h : Rel w0 F φ s a w) (hT : s.mem.tmps = [] ∨ w' = w) (hi : s.mem.used i = false) (hbut : But b w w') (hb : w0.heap.size ≤ b ∨ F b) (hnone : ∀ j, ¬ ownBlock φ s.mem.objs j b)
    (hok : ObjOk (updP φ i p) (s.mem.add i o).objs w0.heap.size F w' i o) (hids : ∀ j ∈ o.ids, s.mem.used j = true) (hblk : ∀ b' o', p.base = some ⟨b', o', none⟩ → p.cap ≠ 0 ∨ (∃ cs, o = .var cs) ∨ (∃ K V es, o = .map K V es) → b' = b)
    (hro : ∀ T xs, o = .list T xs false → (xs = [] ∧ p.cap = 0)) :
    Rel w0 F (updP φ i p) { s with mem := s.mem.add i o } a w' := by
  have hno : ∀ j, s.mem.used j = true → j ≠ i := fun j hj e => by subst e; rw [hi] at hj; cases hj
  have hkeep : ∀ j, j ≠ i → KeepI φ s.mem.objs (updP φ i p) (s.mem.add i o).objs j := fun j hj =>
    ⟨by simp [updP, hj], fun T xs ow hm => ⟨T, xs, ow, by simpa [Mem.add, hj] using hm, rfl⟩⟩
  have hown : ∀ j b, j ≠ i → ownBlock (updP φ i p) (s.mem.add i o).objs j b → ownBlock φ s.mem.objs j b := fun j b hj hb => by
    simpa [ownBlock, updP, Mem.add, hj] using hb
  have hnew : ∀ b', ownBlock (updP φ i p) (s.mem.add i o).objs i b' → b' = b := fun b' hb' => by
    rcases hb' with ⟨cs, hm, hb'⟩ | ⟨T, xs, o', hm, hb', hc⟩ | ⟨K, V, es, hm, hb'⟩
    · simp [updP, Mem.add] at hb' hm
      exact hblk b' 0 hb' (.inr (.inl ⟨cs, hm⟩))
    · simp [updP] at hb' hc
      exact hblk b' o' hb' (.inl hc)
    · simp [updP, Mem.add] at hb' hm
      exact hblk b' 0 hb' (.inr (.inr ⟨K, V, es, hm⟩))
  exact {
    defers := h.defers
    size := h.size
    fr := fun t => (h.fr t).keep fun j hj => hkeep j (hno j (h.frids t j hj))
    frids := fun t j hj => by
      simp only [Mem.add]; split
      · rfl
      · exact h.frids t j hj
    objids := fun j ob hm k hk => by
      simp only [Mem.add] at hm ⊢
      split
      · rfl
      · split at hm
        · simp at hm; subst hm; exact hids k hk
        · exact h.objids j ob hm k hk
    usedo := fun j ob hm => by
      simp only [Mem.add] at hm ⊢
      split
      · rfl
      · rename_i hne; rw [if_neg hne] at hm; exact h.usedo j ob hm
    mem := fun j ob hm => by
      by_cases e : j = i
      · subst e
        simp [Mem.add] at hm; subst hm
        exact hok
      · have hm' : s.mem.objs j = some ob := by simpa [Mem.add, e] using hm
        have hk : ∀ k ∈ ob.ids, KeepI φ s.mem.objs (updP φ i p) (s.mem.add i o).objs k := fun k hk => hkeep k (hno k (h.objids j ob hm' k hk))
        by_cases hz : (∃ T xs ow, ob = .list T xs ow) ∧ (φ j).cap = 0
        · obtain ⟨⟨T, xs, ow, rfl⟩, hc⟩ := hz
          rcases h.mem j _ hm' with ⟨q1, q2⟩ | ⟨b', oo, arr, E, lo, hi, pre, post, q1, q2, q3, q4, q5, q6⟩
          · exact .inl ⟨q1, by simpa [updP, e] using q2⟩
          · exact .inl ⟨List.length_eq_zero_iff.1 (by omega), by simpa [updP, e] using hc⟩
        · rcases hT with hT | hT
          rotate_left
          · exact (h.mem j ob hm').keep hk (by simp [updP, e]) (fun b' o' hb' ⟨x, hx⟩ => by rw [hT])
          refine (h.mem j ob hm').keep hk (by simp [updP, e]) (fun b' o' hb' ⟨x, hx⟩ => hbut.other b' fun eb => ?_)
          subst eb
          cases ob with
          | var cs => exact hnone j (.inl ⟨cs, hm', by
              obtain ⟨b2, arr, E, lo, hi, q1, _⟩ := h.mem j _ hm'
              rw [hb'] at q1; simp at q1; obtain ⟨rfl, rfl⟩ := q1; exact hb'⟩)
          | map K V es => exact hnone j (.inr (.inr ⟨K, V, es, hm', by
              obtain ⟨b2, arr, clk, q1, _⟩ := h.mem j _ hm'
              rw [hb'] at q1; simp at q1; obtain ⟨rfl, rfl⟩ := q1; exact hb'⟩))
          | list T xs ow =>
            have hc : (φ j).cap ≠ 0 := fun hc => hz ⟨⟨T, xs, ow, rfl⟩, hc⟩
            cases ow with
            | true => exact hnone j (.inr (.inl ⟨T, xs, o', hm', hb', hc⟩))
            | false =>
              rcases h.ro j T xs hm' with ht | ⟨_, hc'⟩ | ⟨b2, o2, hb2, hlt, hnF⟩
              · rw [hT] at ht; cases ht
              · exact hc hc'
              · rw [hb'] at hb2; simp at hb2; obtain ⟨rfl, _⟩ := hb2
                rcases hb with q | q
                · omega
                · exact hnF q
    inj := fun j k b' hj hk => by
      by_cases ej : j = i <;> by_cases ek : k = i
      · rw [ej, ek]
      · subst ej
        have h1 := hnew b' hj
        subst h1
        exact absurd (hown k b' ek hk) (hnone k)
      · subst ek
        have h1 := hnew b' hk
        subst h1
        exact absurd (hown j b' ej hj) (hnone j)
      · exact h.inj j k b' (hown j b' ej hj) (hown k b' ek hk)
    ro := fun j T xs hm => by
      by_cases e : j = i
      · subst e
        simp [Mem.add] at hm
        refine .inr (.inl ?_)
        have := hro T xs hm
        simpa [updP] using this
      · have := h.ro j T xs (by simpa [Mem.add, e] using hm)
        simpa [updP, e, Mem.add] using this
    pinned := fun q hq => by
      obtain ⟨h1, h2⟩ := h.pinned q hq
      have hne := hno _ h2
      exact ⟨by simp [updP, hne, h1], by simp only [Mem.add]; split; rfl; exact h2⟩
    fb := h.fb
    old := ⟨hbut.os.trans h.old.os, hbut.tape.trans h.old.tape, hbut.output.trans h.old.output, by rw [hbut.size]; exact h.old.size, fun k hk hf => (hbut.other k fun e => by
      subst e
      rcases hb with q | q
      · omega
      · exact hf q).trans (h.old.block k hk hf)⟩ }

/-- What an append goes onto, in memory. -/
theorem baseOf_spec {T : Ty} {c : Ck} {i : Option Nat} {xs : List T.den} {val : Value} (h : Rel w0 F φ s a w) (hb : baseOf s.mem.objs T c = some (true, i, xs)) (hc : (SV.sc c).R φ s.mem.objs val) :
    ∃ base cap, val = .slice base xs.length cap ∧ ((cap = 0 ∧ xs = []) ∨ ∃ b o arr E lo hi pre post k, base = some ⟨b, o, none⟩ ∧ i = some k ∧ ownBlock φ s.mem.objs k b ∧ w.heap[b]? = some (.cells arr E (lo, hi)) ∧
      arr.toList = pre ++ xs.flatMap T.cells ++ post ∧ pre.length = o ∧ xs.length ≤ cap ∧ o + cap * T.size ≤ arr.size ∧ (hi ≤ lo ∨ arr.size ≤ lo) ∧ (w0.heap.size ≤ b ∨ F b)) := by
  unfold baseOf at hb
  split at hb
  · simp at hb; obtain ⟨rfl, rfl⟩ := hb
    simp only [SV.R, Ck.R, List.cons.injEq, and_true] at hc
    exact ⟨none, 0, hc, .inl ⟨rfl, rfl⟩⟩
  · next k =>
    split at hb
    · next T' ys hV =>
      split at hb
      · next zs hz =>
        obtain ⟨rfl, hh⟩ := castL_spec hz
        have := eq_of_heq hh; subst this
        simp at hb; obtain ⟨rfl, rfl⟩ := hb
        refine ⟨_, _, R_sl hV hc, ?_⟩
        rcases h.mem k _ hV with ⟨h1, h2⟩ | ⟨b, o, arr, E, lo, hi, pre, post, q1, q2, q3, q4, q5, q6⟩
        · exact .inl ⟨h2, h1⟩
        · obtain ⟨c1, q6⟩ := q6
          obtain ⟨c2, c3⟩ := q6 rfl
          by_cases hcap : (φ k).cap = 0
          · exact .inl ⟨hcap, List.length_eq_zero_iff.1 (by omega)⟩
          · exact .inr ⟨b, o, arr, E, lo, hi, pre, post, k, q1, rfl, .inr (.inl ⟨_, _, o, hV, q1, hcap⟩), q2, q3, q4, q5, c1, c2, c3⟩
      · cases hb
    · cases hb
  · next k sz lo n =>
    split at hb
    · next T' ys hV =>
      split at hb
      · next hsz =>
        subst hsz
        split at hb
        · next zs hz =>
          obtain ⟨rfl, hh⟩ := castL_spec hz
          have := eq_of_heq hh; subst this
          obtain ⟨hle, hr⟩ := Prod.mk.inj (Option.some.inj hb)
          obtain ⟨rfl, rfl⟩ := Prod.mk.inj hr
          have hle : lo.toNat + n.toNat ≤ ys.length := of_decide_eq_true hle
          obtain ⟨ba, c, ea, hc1, hlo, hn0, hcap, hd⟩ := hc
          simp at ea
          have hlen := winOf_length hle
          refine ⟨ba, c, by rw [hlen]; exact ea, ?_⟩
          rcases Nat.eq_zero_or_pos c with hc0 | hc0
          · exact .inl ⟨hc0, List.length_eq_zero_iff.1 (by omega)⟩
          · rcases hd with hd | ⟨b, o, hbb, rfl⟩
            · omega
            · have hcap' : lo.toNat + c ≤ (φ k).cap := by omega
              rcases h.mem k _ hV with ⟨h1, h2⟩ | ⟨b', o', arr, E, l, hi, pre, post, q1, q2, q3, q4, q5, q6⟩
              · omega
              · rw [hbb] at q1; simp at q1; obtain ⟨rfl, rfl⟩ := q1
                obtain ⟨c1, q6⟩ := q6
                obtain ⟨c2, c3⟩ := q6 rfl
                have hmul : lo.toNat * T'.size + c * T'.size ≤ (φ k).cap * T'.size := by rw [← Nat.add_mul]; exact Nat.mul_le_mul_right _ hcap'
                have hsplit : ys.flatMap T'.cells = (ys.take lo.toNat).flatMap T'.cells ++ (winOf ys lo n).flatMap T'.cells ++ ((ys.drop lo.toNat).drop n.toNat).flatMap T'.cells := by
                  unfold winOf
                  rw [← List.flatMap_append, ← List.flatMap_append, List.append_assoc, List.take_append_drop, List.take_append_drop]
                refine .inr ⟨b, o + lo.toNat * T'.size, arr, E, l, hi, pre ++ (ys.take lo.toNat).flatMap T'.cells, ((ys.drop lo.toNat).drop n.toNat).flatMap T'.cells ++ post, k, rfl, rfl, .inr (.inl ⟨_, _, o, hV, hbb, by omega⟩), q2, ?_, ?_, by omega, by omega, c2, c3⟩
                · rw [q3, hsplit]; simp
                · rw [List.length_append, q4, flatMap_length, List.length_take, Nat.min_eq_left (by omega)]
        · cases hb
      · cases hb
    · cases hb
  · cases hb

theorem appendOp_sound {ρ : Operand → SV} {o : Oper} {ob : AObj} {i : Option Nat} {j : Nat} (h : Rel w0 F φ s a w) (hTm : s.mem.tmps = []) (hρ : ∀ x, (ρ x).R φ s.mem.objs (a.eval x)) (hj : s.mem.used j = false)
    (ho : appendOp P ρ s.mem.objs o.op = some (true, i, ob)) :
    ∃ val w' p, (execOp a.eval o).run P w = .ok (.value val) w' ∧ Rel w0 F (updP φ j p) { s with mem := (s.mem.del i).add j ob } a w' ∧ (SV.sc (.sl j)).R (updP φ j p) ((s.mem.del i).add j ob).objs val := by
  unfold execOp
  generalize o.op = op at ho
  cases op with
  | call c =>
    obtain ⟨callee, args, argTypes⟩ := c
    cases callee with
    | builtin bi =>
      cases bi with
      | append =>
        simp only [appendOp] at ho
        split at ho
        · next x y tx ty ea et =>
          have hx := hρ x; have hy := hρ y
          split at ho
          · next e d hu hd =>
            split at ho
            · cases ho
            · next hnint =>
              split at ho
              · next T de z cx cy hT hde hz ex ey =>
                rw [ex] at hx; rw [ey] at hy
                split at ho
                · next hcnd =>
                  obtain ⟨hsz, hdec, hbytes⟩ := hcnd
                  obtain ⟨zd, hzd⟩ := Option.isSome_iff_exists.1 hdec
                  split at ho
                  · next b1 i' xs b2 ys hbase hrow =>
                    simp only [Option.some.injEq, Prod.mk.injEq] at ho
                    obtain ⟨hc, rfl, rfl⟩ := ho
                    have hb1 := (bool_and_true hc).1
                    have hc' := (bool_and_true hc).2
                    have hb2 := (bool_and_true hc').1
                    have hroom := of_decide_eq_true (bool_and_true hc').2
                    rw [hb1] at hbase
                    rw [hb2] at hrow
                    obtain ⟨zv, hzv, hzf⟩ := zeroOf_sound (φ := φ) (m := s.mem.objs) hz
                    obtain ⟨inf, hinf⟩ := zeroOf_info hz
                    have hby : P.bytesOf e = inf.bytes := by simp [Program.bytesOf, hinf]
                    have hzc := FlatR.dec1 hzd hzf
                    have ha0 : args = #[x, y] := by apply Array.toList_inj.1; rw [ea]
                    have ht0 : argTypes = #[tx, ty] := by apply Array.toList_inj.1; rw [et]
                    subst ha0 ht0
                    obtain ⟨base, cap, hval, hspec⟩ := baseOf_spec h hbase hx
                    obtain ⟨hlen, hfirst⟩ := rowOf_cells (P := P) h.mem hrow hy
                    have hzeros : (match d with | .int _ => true | _ => false) = false := by
                      cases d <;> first | rfl | exact absurd rfl (hnint _)
                    -- the run, up to the choice
                    suffices hs : ∃ val w' p, (Builtin.append_ #[tx, ty] o.type #[a.eval x, a.eval y]).run P w = .ok val w' ∧ Rel w0 F (updP φ j p) { s with mem := (s.mem.del i').add j (.list T (xs ++ ys) true) } a w' ∧
                        (SV.sc (.sl j)).R (updP φ j p) ((s.mem.del i').add j (.list T (xs ++ ys) true)).objs val by
                      obtain ⟨val, w', p, g1, g2, g3⟩ := hs
                      exact ⟨val, w', p, by simp [resolve, invoke, builtin, g1], g2, g3⟩
                    have hjd : (s.mem.del i').used j = false := by cases i' <;> exact hj
                    rw [hval]
                    simp only [Builtin.append_, List.getElem?_toArray, List.getElem?_cons_zero, List.getElem?_cons_succ, Sem.run_bind, run_underlying hu, run_underlying hd, run_sizeOf (info_of_underlying hde), Result.andThen_ok, Sem.run_pure, hlen, Bool.false_eq_true, if_false, Bool.not_false, if_true]
                    have hfirst := hfirst ys.length (Nat.le_refl _)
                    rw [hsz, List.take_length] at hfirst
                    have hxl : (xs ++ ys).length = xs.length + ys.length := by simp
                    by_cases hfit : xs.length + ys.length ≤ cap
                    · rw [if_pos hfit]
                      simp only [Sem.run_bind, hfirst, Result.andThen_ok]
                      rcases hspec with ⟨hcap0, hxs0⟩ | ⟨b, of, arr, E, lo, hi, pre, post, k, rfl, hik, hown, hw, harr, hpre, hle, hsize, hfr, hNF⟩
                      · have hys0 : ys = [] := List.length_eq_zero_iff.1 (by omega)
                        subst hxs0 hys0 hcap0
                        refine ⟨.slice base 0 0, w, ⟨base, 0⟩, ?_, (h.del i').new hjd (Old.refl _ w) (.inl ⟨by simp, by simp [updP]⟩) (by simp [AObj.ids]) (fun b' o' _ hh => ?_) (fun T' xs' e' => by cases e'), ?_⟩
                        · cases base with
                          | none => rfl
                          | some ad => simp [storeCells]
                        · rcases hh with hh | ⟨cs, hh⟩ | ⟨_, _, _, hh⟩
                          · exact absurd rfl hh
                          · cases hh
                          · cases hh
                        · simp [SV.R, Ck.R, Mem.add, updP]
                      · have hmul : xs.length * T.size + ys.length * T.size ≤ cap * T.size := by rw [← Nat.add_mul]; exact Nat.mul_le_mul_right _ hfit
                        have hpostlen : arr.size = of + xs.length * T.size + post.length := by rw [← Array.length_toList, harr, List.length_append, List.length_append, flatMap_length, hpre]
                        obtain ⟨w', arr', g1, g2, g3, g4⟩ := run_storeCells P (o := of + xs.length * T.size) (ys.flatMap T.cells) 0 w arr hw (by rw [flatMap_length]; omega) hfr (fun v hv => by
                          obtain ⟨yv, _, hyv⟩ := List.mem_flatMap.1 hv
                          exact FlatR.scalar (FlatR.enc (φ := φ) (m := s.mem.objs) T yv) v hyv)
                        have harr' : arr'.toList = pre ++ (xs ++ ys).flatMap T.cells ++ post.drop (ys.length * T.size) := by
                          rw [g4, Nat.add_zero, harr, List.flatMap_append, flatMap_length]
                          have hA : (pre ++ xs.flatMap T.cells).length = of + xs.length * T.size := by rw [List.length_append, flatMap_length, hpre]
                          rw [← hA, List.take_left, ← List.drop_drop, List.drop_left]
                          simp
                        have hasz : arr'.size = arr.size := by
                          rw [← Array.length_toList, harr', List.length_append, List.length_append, List.flatMap_append, List.length_append, flatMap_length, flatMap_length, List.length_drop, hpre]; omega
                        refine ⟨.slice (some ⟨b, of, none⟩) (xs.length + ys.length) cap, w', ⟨some ⟨b, of, none⟩, cap⟩, ?_, (h.del i').adopt (.inl (by cases i' <;> exact hTm)) hjd g2 hNF (fun q hq => ?_) (.inr ⟨b, of, arr', E, lo, hi, pre, _, by simp [updP], g3, harr', hpre, by simpa [updP] using hfit, by simp [updP]; omega, fun _ => ⟨by rw [hasz]; exact hfr, hNF⟩⟩) (by simp [AObj.ids]) (fun b' o' hb' _ => by simp at hb'; exact hb'.1.symm) (fun T' xs' e' => by cases e'), ?_⟩
                        · rw [← hsz]
                          simp only [addr_add, Sem.run_bind, g1, Result.andThen_ok, Sem.run_pure]
                        · subst hik
                          have hq' : ownBlock φ s.mem.objs q b ∧ q ≠ k := by
                            rcases hq with ⟨cs, h1, h2⟩ | ⟨T', xs', oo, h1, h2, h3⟩ | ⟨K', V', es', h1, h2⟩
                            · simp only [Mem.del] at h1
                              split at h1
                              · cases h1
                              · next hne => exact ⟨.inl ⟨cs, h1, h2⟩, hne⟩
                            · simp only [Mem.del] at h1
                              split at h1
                              · cases h1
                              · next hne => exact ⟨.inr (.inl ⟨T', xs', oo, h1, h2, h3⟩), hne⟩
                            · simp only [Mem.del] at h1
                              split at h1
                              · cases h1
                              · next hne => exact ⟨.inr (.inr ⟨K', V', es', h1, h2⟩), hne⟩
                          exact hq'.2 (h.inj q k b hq'.1 hown)
                        · simp [SV.R, Ck.R, Mem.add, updP]
                    · rw [if_neg hfit]
                      have hneed : xs.length + ys.length ≤ 140737488355328 := by
                        have := Nat.mul_le_mul_left (xs.length + ys.length) (show 1 ≤ P.bytesOf e by omega)
                        omega
                      have hgrow := growslice_fits (bytes := inf.bytes) (show cap < xs.length + ys.length by omega) (by rw [← hby]; exact hroom)
                      have h1 : ¬ (((xs.length + ys.length : Nat) : Int) > IntKind.i64.max ∧ (False ∨ inf.bytes = 0)) := fun hh => by
                        rcases hh.2 with hh | hh
                        · exact hh
                        · exact hbytes (by rw [hby]; exact hh)
                      have h2 : ¬ (Builtin.nextslicecap (xs.length + ys.length) cap * inf.bytes > 2 ^ 48) := by
                        have : (2 : Nat) ^ 48 = 281474976710656 := by decide
                        omega
                      simp only [Sem.run_bind, run_typeInfo hinf, Result.andThen_ok]
                      rw [if_neg h1]
                      simp only [Sem.run_bind, run_typeInfo hinf, Result.andThen_ok]
                      rw [if_neg h2]
                      have hwd : Rel w0 F φ s a w.drew := h.world rfl rfl rfl rfl
                      have hfirst' := (rowOf_cells (P := P) (w := w.drew) hwd.mem hrow hy).2 ys.length (Nat.le_refl _)
                      rw [hsz, List.take_length] at hfirst'
                      have hold' : (Builtin.firstCells (P.cellsOf e) xs.length (.slice base xs.length cap)).run P w.drew = .ok (xs.flatMap T.cells).toArray w.drew := by
                        rw [← hsz, ← List.take_length (l := xs)]
                        rw [List.take_length]
                        have hfs := firstCells_slice (P := P) (w := w.drew) (T := T) (ys := xs) (a := base) (cap := cap) ?_ xs.length (Nat.le_refl _)
                        · rwa [List.take_length] at hfs
                        rcases hspec with ⟨_, hxs0⟩ | ⟨b, of, arr, E, lo, hi, pre, post, k, hb, hik, hown, hw, harr, hpre, hle, hsize, hfr, hNF⟩
                        · exact .inl hxs0
                        · refine .inr ⟨b, of, arr, E, (lo, hi), hb, hw, ?_, ?_⟩
                          · have := Nat.mul_le_mul_right T.size hle; omega
                          · rw [harr, ← hpre, List.append_assoc, List.drop_left, List.take_append_of_le_length (by rw [flatMap_length]; exact Nat.le_refl _), List.take_of_length_le (by rw [flatMap_length]; exact Nat.le_refl _)]
                      have hge := grownCap_ge w (xs.length + ys.length) cap e
                      generalize hnc : grownCap w (xs.length + ys.length) cap e = nc at hge
                      have hq : (Question.appendCap (xs.length + ys.length) cap e).cut (w.tape w.drawn (.appendCap (xs.length + ys.length) cap e)) = nc := hnc
                      have hzs : zv.cells.size = T.size := by rw [← Array.length_toList, hzc, Ty.cells_length]
                      refine ⟨.slice (some ⟨w.heap.size, 0, none⟩) (xs.length + ys.length) nc, { w.drew with heap := w.drew.heap.push (.cells ((xs.flatMap T.cells).toArray ++ (ys.flatMap T.cells).toArray ++ Builtin.zeroCells zv.cells (nc - (xs.length + ys.length))) e (0, 0)) }, ⟨some ⟨w.heap.size, 0, none⟩, nc⟩, ?_, ?_, ?_⟩
                      · simp only [run_choose_drew, Question.forced, Bool.false_eq_true, if_false, Sem.run_bind, Result.andThen_ok, hq, run_typeInfo hinf, run_askRoom, hold', hfirst', hzv, newRow, run_newObj, Sem.run_pure]
                        rfl
                      · refine (hwd.del i').newList (cap := nc) (post := (Builtin.zeroCells zv.cells (nc - (xs.length + ys.length))).toList) hjd (Old.push w.drew _) (push_at w.drew _) ?_ (by rw [hxl]; exact hge) ?_ (.inl (Nat.le_refl _))
                        · simp
                        · have hz2 : (Builtin.zeroCells zv.cells (nc - (xs.length + ys.length))).size = (nc - (xs.length + ys.length)) * T.size := by simp [Builtin.zeroCells, hzs]
                          rw [Array.size_append, Array.size_append, hz2, List.size_toArray, List.size_toArray, flatMap_length, flatMap_length, ← Nat.add_mul, ← Nat.add_mul]
                          exact Nat.le_of_eq (by congr 1; omega)
                      · simp [SV.R, Ck.R, Mem.add, updP]
                  · cases ho
                · cases ho
              · cases ho
          · cases ho
        · cases ho
      | _ => simp [appendOp] at ho
    | _ => simp [appendOp] at ho
  | _ => simp [appendOp] at ho
end

end Go.Sx
