/-
  Zero values; composites built; the operations that only compute.
-/
import Derived.Test.YtagooceoocohpaaSyE
set_option linter.unusedVariables false
namespace Go.Sx

/-! ### Zero values -/

def zeroCks (P : Program) : Nat → TypeId → Option (List Ck)
  | 0, _ => none
  | d + 1, t => match P.underlying t with
    | some (.int k) => some [.int k 0]
    | some .bool => some [.bool false]
    | some .string => some [.str ⟨#[]⟩]
    | some (.pointer _) => some [.nilp]
    | some (.slice _) => some [.nils]
    | some (.map _ _) => some [.nilm]
    | some (.func _ _ _) => some [.nilf]
    | some (.array n e) => (match P.underlying e with
      | some (.int k) => some [.arr k n fun _ => 0]
      | _ => (match zeroCks P d e with
        | some c => some (List.replicate n c).flatten
        | none => none))
    | some (.struct fs) => fs.toList.foldr (fun f r => match zeroCks P d f.type, r with
      | some c, some cs => some (c ++ cs)
      | _, _ => none) (some [])
    | _ => none

/-- The cells of a chunk without addresses, if they are these. -/
def Ck.isZ : Ck → Value → Bool
  | .int k x, .int k' y => decide (k = k') && x == y
  | .bool b, .bool c => b == c
  | .str s, .string t => s.data.size == 0 && t.data.size == 0
  | .nilp, .pointer none => true
  | .nils, .slice none 0 0 => true
  | .nilm, .map none => true
  | .nilf, .nilFunc => true
  | _, _ => false

theorem Ck.isZ_R {φ m} {c : Ck} {v : Value} (h : c.isZ v = true) : c.R φ m [v] := by
  unfold Ck.isZ at h
  split at h <;> simp_all [Ck.R]

def zeroOk : List Ck → List Value → Bool
  | [], [] => true
  | .arr k n f :: cs, l => (List.range n).all (fun i => match l[i]? with | some (.int k' y) => decide (k = k') && f i == y | _ => false) && zeroOk cs (l.drop n)
  | c :: cs, v :: l => c.isZ v && zeroOk cs l
  | _, _ => false

theorem zeroOk_R {φ m} : ∀ {cs : List Ck} {l : List Value}, zeroOk cs l = true → FlatR φ m cs l
  | [], [], _ => rfl
  | [], _ :: _, h => by simp [zeroOk] at h
  | c :: cs, l, h => by
    cases c with
    | arr k n f =>
      simp only [zeroOk, Bool.and_eq_true, List.all_eq_true, List.mem_range] at h
      obtain ⟨h1, h2⟩ := h
      have hn : n ≤ l.length := by
        rcases Nat.lt_or_ge l.length n with h | h
        · have := h1 l.length h
          simp at this
        · exact h
      refine ⟨l.take n, l.drop n, (List.take_append_drop n l).symm, ?_, zeroOk_R h2⟩
      simp only [Ck.R]
      apply List.ext_getElem?
      intro i
      by_cases hi : i < n
      · have := h1 i hi
        split at this
        · next k' y hl =>
          simp at this
          obtain ⟨rfl, rfl⟩ := this
          simp [hi, hl]
        · cases this
      · simp [hi]; omega
    | _ =>
      cases l with
      | nil => simp [zeroOk] at h
      | cons v l =>
        simp only [zeroOk, Bool.and_eq_true] at h
        exact ⟨[v], l, rfl, Ck.isZ_R h.1, zeroOk_R h.2⟩

/-- The chunks of a type's zero value, held against the model's own. -/
def zeroOf (P : Program) (t : TypeId) : Option (List Ck) :=
  match (P.info? t).bind (·.zero), zeroCks P 12 t with
  | some v, some cs => if zeroOk cs v.cells.toList = true then some cs else none
  | _, _ => none

theorem zeroOf_sound {P : Program} {φ m} {t : TypeId} {cs : List Ck} (h : zeroOf P t = some cs) : ∃ v, (∀ w, (zeroValue t).run P w = .ok v w) ∧ FlatR φ m cs v.cells.toList := by
  unfold zeroOf at h
  split at h
  · next v cs' hv hc =>
    split at h
    · next hz =>
      simp at h; subst h
      cases hi : P.info? t with
      | none => simp [hi] at hv
      | some i =>
        simp [hi] at hv
        exact ⟨v, fun w => by simp [zeroValue, run_typeInfo hi, hv], zeroOk_R hz⟩
    · cases h
  · cases h

/-! ### Composites -/

def SV.cks : SV → Option (List Ck)
  | .sc c => some [c]
  | .agg cs => some cs
  | _ => Option.none

theorem scalar_cells {v : Value} (h : scalar v) : v.cells = #[v] := by
  cases v <;> simp_all [scalar, Value.cells]

theorem SV.cks_R {φ m} {s : SV} {cs : List Ck} {v : Value} (h : s.cks = some cs) (hv : s.R φ m v) : FlatR φ m cs v.cells.toList ∧ ∀ i ∈ Cks.ids cs, i ∈ s.ids := by
  cases s with
  | none => simp [SV.cks] at h
  | tup _ => simp [SV.cks] at h
  | sc c =>
    simp [SV.cks] at h; subst h
    have : scalar v := Ck.R_scalar (show c.R φ m [v] from hv) v (by simp)
    rw [scalar_cells this]
    exact ⟨FlatR.of_single hv, fun i hi => by simpa [Cks.ids, SV.ids] using hi⟩
  | agg cs' =>
    simp [SV.cks] at h; subst h
    obtain ⟨l, rfl, hf⟩ := hv
    exact ⟨by simpa [Value.cells] using hf, fun i hi => hi⟩

def updA (f : Nat → Int) (i : Nat) (x : Int) : Nat → Int := fun j => if j = i then x else f j

/-- Chunks laid into chunks: an integer into an array of them, too. -/
def layCks (cs : List Ck) (off : Nat) (new : List Ck) : Option (List Ck) :=
  match cs, new with
  | [.arr k n f], [.int k' x] => if k = k' ∧ off < n then some [.arr k n (updA f off x)] else none
  | _, _ => putCks cs off new

theorem set_map_range (k : IntKind) (n off : Nat) (f : Nat → Int) (x : Int) (h : off < n) :
    (List.range n).map (fun i => Value.int k (updA f off x i)) = ((List.range n).map fun i => Value.int k (f i)).take off ++ [Value.int k x] ++ ((List.range n).map fun i => Value.int k (f i)).drop (off + 1) := by
  apply List.ext_getElem?
  intro i
  simp only [List.getElem?_append, List.getElem?_map, List.getElem?_take, List.getElem?_drop, List.length_take, List.length_append, List.length_map, List.length_range, List.length_cons, List.length_nil, updA]
  rcases Nat.lt_trichotomy i off with h1 | h1 | h1
  · rw [if_pos (by omega), if_pos (by omega), if_pos (by omega)]
    simp [show i < n by omega, show i ≠ off by omega]
  · subst h1
    rw [if_pos (by omega), if_neg (by omega)]
    simp [h, show i - min i n = 0 by omega]
  · rw [if_neg (by omega)]
    rw [show off + 1 + (i - (min off n + (0 + 1))) = i by omega]
    by_cases hi : i < n
    · simp [hi, show i ≠ off by omega]
    · simp [hi]

theorem layCks_spec {φ m} {cs new res : List Ck} {off : Nat} {l ln : List Value} (h : layCks cs off new = some res) (hl : FlatR φ m cs l) (hn : FlatR φ m new ln) :
    FlatR φ m res (l.take off ++ ln ++ l.drop (off + ln.length)) ∧ off + ln.length ≤ l.length ∧ (∀ i ∈ Cks.ids res, i ∈ Cks.ids cs ∨ i ∈ Cks.ids new) := by
  unfold layCks at h
  split at h
  · next k n f k' x =>
    split at h
    · next hh =>
      obtain ⟨rfl, hlt⟩ := hh
      simp at h; subst h
      have e1 := arr_single (v := .nilFunc) rfl hl
      obtain ⟨l1, l2, rfl, h1, h2⟩ := hn
      simp only [FlatR] at h2; subst h2
      simp only [Ck.R] at h1; subst h1 e1
      refine ⟨?_, by simp; omega, fun i hi => by simp [Cks.ids, Ck.ids] at hi⟩
      refine FlatR.of_single ?_
      simp only [Ck.R, List.append_nil, List.length_cons, List.length_nil, Nat.zero_add]
      exact (set_map_range k n off f x hlt).symm
    · cases h
  · exact putCks_spec h hl hn

def fillCks (place : Nat → Option (Nat × Nat)) (cs : List Ck) : List (Nat × SV) → Option (List Ck)
  | [] => some cs
  | (i, v) :: rest =>
    match place i, v.cks with
    | some (off, size), some new => if Cks.size new = size then (match layCks cs off new with
      | some cs' => fillCks place cs' rest
      | none => none) else none
    | _, _ => none

theorem foldl_set (c : List Value) : ∀ (off : Nat) (cs : Array Value) (s : Nat), off + s + c.length ≤ cs.size →
    ((c.zipIdx s).foldl (fun cs p => cs.setIfInBounds (off + p.2) p.1) cs).toList = cs.toList.take (off + s) ++ c ++ cs.toList.drop (off + s + c.length) := by
  induction c with
  | nil => intro off cs s h; simp
  | cons v c ih =>
    intro off cs s h
    simp only [List.length_cons] at h
    simp only [List.zipIdx_cons, List.foldl_cons]
    rw [ih off _ (s + 1) (by simp; omega)]
    simp only [Array.toList_setIfInBounds, List.length_cons]
    have hlt : off + s < cs.toList.length := by simpa using (by omega : off + s < cs.size)
    rw [show off + (s + 1) = off + s + 1 by omega, show off + s + (c.length + 1) = off + s + 1 + c.length by omega]
    generalize cs.toList = xs at hlt
    generalize off + s = k at hlt
    apply List.ext_getElem?
    intro j
    simp only [List.getElem?_append, List.getElem?_take, List.getElem?_drop, List.length_take, List.length_append, List.length_set, List.length_cons, List.getElem?_set]
    rcases Nat.lt_trichotomy j k with h | h | h
    · repeat (first | rw [if_pos (by omega)] | rw [if_neg (by omega)])
    · subst h
      have e0 : j - min j xs.length = 0 := by omega
      repeat (first | rw [if_pos rfl] | rw [if_pos (by omega)] | rw [if_neg (by omega)])
      rw [e0]
      rfl
    · by_cases h2 : j < k + 1 + c.length
      · repeat (first | rw [if_pos (by omega)] | rw [if_neg (by omega)])
        rw [show j - min k xs.length = (j - min (k + 1) xs.length) + 1 from by omega]
        simp
      · repeat (first | rw [if_pos (by omega)] | rw [if_neg (by omega)])
        congr 1; omega

theorem fillCks_spec {φ m} {place : Nat → Option (Nat × Nat)} : ∀ (parts : List (Nat × SV)) (vs : List (Nat × Value)) (cs res : List Ck) (cells : Array Value),
    fillCks place cs parts = some res → FlatR φ m cs cells.toList → All2 (fun p q => p.1 = q.1 ∧ p.2.R φ m q.2) parts vs →
    ∃ cells', Instr.fill place cells vs = some cells' ∧ FlatR φ m res cells'.toList ∧ ∀ i ∈ Cks.ids res, i ∈ Cks.ids cs ∨ ∃ p ∈ parts, i ∈ p.2.ids
  | [], [], cs, res, cells, h, hf, _ => by simp [fillCks] at h; subst h; exact ⟨cells, rfl, hf, fun i hi => .inl hi⟩
  | [], _ :: _, _, _, _, _, _, h => h.elim
  | _ :: _, [], _, _, _, _, _, h => h.elim
  | (i, sv) :: parts, (j, v) :: vs, cs, res, cells, h, hf, ⟨⟨hij, hv⟩, hrest⟩ => by
    simp only at hij hv; subst hij
    simp only [fillCks] at h
    split at h
    · next off size new hp hnew =>
      split at h
      · next hsz =>
        split at h
        · next cs' hlay =>
          obtain ⟨hn, hnids⟩ := SV.cks_R hnew hv
          obtain ⟨h1, h2, h3⟩ := layCks_spec hlay hf hn
          have hlen := hn.length
          have hsize : v.cells.size = size := by rw [← hsz, ← hlen]; simp
          have e : (v.cells.zipIdx.foldl (fun cs (c, j) => cs.setIfInBounds (off + j) c) cells).toList = cells.toList.take off ++ v.cells.toList ++ cells.toList.drop (off + v.cells.toList.length) := by
            have := foldl_set v.cells.toList off cells 0 (by simpa using h2)
            rw [← Array.foldl_toList, Array.toList_zipIdx]
            simpa using this
          rw [← e] at h1
          obtain ⟨cells', g1, g2, g3⟩ := fillCks_spec parts vs cs' res _ h h1 hrest
          refine ⟨cells', ?_, g2, fun k hk => ?_⟩
          · simp only [Instr.fill, hp]
            rw [if_neg (by simp [hsize]; simpa [hsize] using h2)]
            exact g1
          · rcases g3 k hk with hk | ⟨p, hp', hk⟩
            · rcases h3 k hk with hk | hk
              · exact .inl hk
              · exact .inr ⟨(i, sv), by simp, hnids k hk⟩
            · exact .inr ⟨p, by simp [hp'], hk⟩
        · cases h
      · cases h
    · cases h

end Go.Sx
