/-
  A region in any order: a Bool over its operations, and one run in text order, serve every order.
-/
import Derived.Test.YtagooceoocohpaaSyR
set_option linter.unusedVariables false
namespace Go.Sx

def ancOf (acc : List Nat) (o : Oper) : Nat := o.after.toList.foldl (fun m e => if Region.binds .any e = true then (m ||| (1 <<< e.on)) ||| acc.getD e.on 0 else m) 0

def ancL : List Oper → List Nat → List Nat
  | [], acc => acc
  | o :: r, acc => ancL r (acc ++ [ancOf acc o])

def isP (E : Env) (o : Oper) : Bool := match clOf E o.op with
  | .pure => true
  | .read => true
  | .new => true
  | .call _ => true
  | _ => false

/-- The order of two operations is bound, or of no account. -/
def anyB (E : Env) (ops : Array Oper) : Bool :=
  let A := ancL ops.toList []
  (List.range ops.size).all fun j => match ops[j]? with
    | some oj => oj.after.all (fun e => !Region.binds .any e || decide (e.on < j)) &&
        (List.range j).all fun i => (A.getD j 0).testBit i || match ops[i]? with
          | some oi => isP E oi && isP E oj && oi.apart ops oj
          | none => false
    | none => true

/-- The same by what each touches. -/
def anyT (ops : Array Oper) (ts : List Tch) : Bool :=
  let A := ancL ops.toList []
  (List.range ops.size).all fun j => match ops[j]?, ts[j]? with
    | some oj, some tj => oj.after.all (fun e => !Region.binds .any e || decide (e.on < j)) &&
        (List.range j).all fun i => (A.getD j 0).testBit i || match ops[i]?, ts[i]? with
          | some oi, some ti => ti.apart tj && oi.apart ops oj
          | _, _ => false
    | _, _ => false

def tchs (E : Env) (ops : Array Oper) : List Oper → St → List Tch
  | [], _ => []
  | o :: r, s => tch E s o :: match gstep E ops s o with
    | some s1 => tchs E ops r s1
    | none => []

theorem isP_tch {E : Env} {s : St} {o : Oper} (h : isP E o = true) : (tch E s o).W = [] ∧ (tch E s o).free = true := by
  unfold isP at h
  unfold tch
  split at h <;> first | (cases h; done) | (rename_i hc; simp only [hc]; exact ⟨trivial, trivial⟩) | (rename_i hc; simp only [hc]; exact ⟨rfl, rfl⟩)

theorem tchs_get {E : Env} {ops : Array Oper} : ∀ (l : List Oper) {s s' : St}, runL E ops l s = some s' → (tchs E ops l s).length = l.length ∧ runT E ops (l.zip (tchs E ops l s)) s (some s') ∧
    ∀ (j : Nat) (o : Oper), l[j]? = some o → ∃ s1, (tchs E ops l s)[j]? = some (tch E s1 o)
  | [], s, s', h => by cases h; exact ⟨rfl, rfl, fun j o h => by simp at h⟩
  | o :: r, s, s', h => by
    simp only [runL] at h
    cases hg : gstep E ops s o with
    | none => rw [hg] at h; cases h
    | some s1 =>
      rw [hg] at h
      simp only [Option.bind_some] at h
      obtain ⟨h1, h2, h3⟩ := tchs_get r h
      refine ⟨?_, ?_, fun j o' hj => ?_⟩
      · simp only [tchs, hg, List.length_cons, h1]
      · simp only [tchs, hg, List.zip_cons_cons]
        exact ⟨rfl, s1, hg, h2⟩
      · cases j with
        | zero => simp at hj; subst hj; exact ⟨s, by simp [tchs]⟩
        | succ j =>
          obtain ⟨s2, h4⟩ := h3 j o' (by simpa using hj)
          exact ⟨s2, by simp only [tchs, hg]; simpa using h4⟩

theorem ancOf_spec {acc : List Nat} {o : Oper} {i : Nat} (h : (ancOf acc o).testBit i = true) :
    ∃ e ∈ o.after, Region.binds .any e = true ∧ (e.on = i ∨ (acc.getD e.on 0).testBit i = true) := by
  unfold ancOf at h
  have : ∀ (l : List Edge) (m : Nat), (l.foldl (fun m e => if Region.binds .any e = true then (m ||| (1 <<< e.on)) ||| acc.getD e.on 0 else m) m).testBit i = true →
      m.testBit i = true ∨ ∃ e ∈ l, Region.binds .any e = true ∧ (e.on = i ∨ (acc.getD e.on 0).testBit i = true) := by
    intro l
    induction l with
    | nil => intro m h; exact .inl h
    | cons e r ih =>
      intro m h
      rcases ih _ h with h | ⟨e', he', h'⟩
      · simp only at h
        split at h
        · next hb =>
          rw [Nat.testBit_or, Nat.testBit_or] at h
          simp only [Bool.or_eq_true] at h
          rcases h with (h | h) | h
          · exact .inl h
          · refine .inr ⟨e, by simp, hb, .inl ?_⟩
            rw [Nat.testBit_shiftLeft] at h
            simp only [ge_iff_le, Bool.and_eq_true, decide_eq_true_eq] at h
            obtain ⟨h1, h2⟩ := h
            have := Nat.testBit_one_eq_true_iff_self_eq_zero.1 h2
            omega
          · exact .inr ⟨e, by simp, hb, .inr h⟩
        · exact .inl h
      · exact .inr ⟨e', by simp [he'], h'⟩
  rcases this _ _ h with h | ⟨e, he, h⟩
  · simp at h
  · exact ⟨e, by simpa using he, h⟩

theorem ancL_append : ∀ (l : List Oper) (acc : List Nat), ∃ t, ancL l acc = acc ++ t ∧ t.length = l.length
  | [], acc => ⟨[], by simp [ancL], rfl⟩
  | o :: r, acc => by
    obtain ⟨t, h1, h2⟩ := ancL_append r (acc ++ [ancOf acc o])
    exact ⟨ancOf acc o :: t, by simp [ancL, h1], by simp [h2]⟩

theorem ancL_get : ∀ (l : List Oper) (acc : List Nat) (k : Nat) (o : Oper), l[k]? = some o → (ancL l acc).getD (acc.length + k) 0 = ancOf ((ancL l acc).take (acc.length + k)) o
  | [], acc, k, o, h => by simp at h
  | p :: r, acc, 0, o, h => by
    simp at h; subst h
    obtain ⟨t, h1, h2⟩ := ancL_append r (acc ++ [ancOf acc p])
    simp [ancL, h1, List.getD_eq_getElem?_getD]
  | p :: r, acc, k + 1, o, h => by
    have := ancL_get r (acc ++ [ancOf acc p]) k o (by simpa using h)
    simp only [ancL]
    simpa [Nat.add_assoc, Nat.add_comm 1 k] using this

/-- A bit of the mask comes from an edge. -/
theorem anc_edge {ops : Array Oper} {j : Nat} {oj : Oper} (hj : ops[j]? = some oj) {i : Nat} (h : ((ancL ops.toList []).getD j 0).testBit i = true) :
    ∃ e ∈ oj.after, Region.binds .any e = true ∧ (e.on = i ∨ ((ancL ops.toList []).getD e.on 0).testBit i = true) := by
  have hg := ancL_get ops.toList [] j oj (by simpa using hj)
  simp only [List.length_nil, Nat.zero_add] at hg
  rw [hg] at h
  obtain ⟨e, he, hb, h⟩ := ancOf_spec h
  refine ⟨e, he, hb, h.imp id fun h => ?_⟩
  rw [List.getD_eq_getElem?_getD] at h ⊢
  rw [List.getElem?_take] at h
  split at h
  · exact h
  · simp at h

section
variable {E : Env} {w0 : World} {F : Fp} {ops : Array Oper}

theorem anyT_spec {ts : List Tch} (h : anyT ops ts = true) {j : Nat} {oj : Oper} {tj : Tch} (hj : ops[j]? = some oj) (htj : ts[j]? = some tj) :
    (∀ e ∈ oj.after, Region.binds .any e = true → e.on < j) ∧
    ∀ i, i < j → ((ancL ops.toList []).getD j 0).testBit i = true ∨ ∃ oi ti, ops[i]? = some oi ∧ ts[i]? = some ti ∧ ti.apart tj = true ∧ oi.apart ops oj = true := by
  unfold anyT at h
  have hlt : j < ops.size := (Array.getElem?_eq_some_iff.1 hj).1
  have h1 := List.all_eq_true.1 h j (List.mem_range.2 hlt)
  simp only [hj, htj, Bool.and_eq_true] at h1
  refine ⟨fun e he hb => ?_, fun i hi => ?_⟩
  · have := Array.all_eq_true_iff_forall_mem.1 h1.1 e he
    simpa [hb] using this
  · have := List.all_eq_true.1 h1.2 i (List.mem_range.2 hi)
    rcases Bool.or_eq_true _ _ ▸ this with h | h
    · exact .inl h
    · split at h
      · next oi ti hoi hti =>
        simp only [Bool.and_eq_true] at h
        exact .inr ⟨oi, ti, hoi, hti, h.1, h.2⟩
      · cases h

theorem anyB_T {s s' : St} (h : anyB E ops = true) (hs : runL E ops ops.toList s = some s') : anyT ops (tchs E ops ops.toList s) = true := by
  obtain ⟨_, _, hget⟩ := tchs_get ops.toList hs
  unfold anyT
  refine List.all_eq_true.2 fun j hj => ?_
  have hlt := List.mem_range.1 hj
  have hoj : ops[j]? = some ops[j] := by simp [hlt]
  obtain ⟨sj, htj⟩ := hget j ops[j] (by simp)
  unfold anyB at h
  have h1 := List.all_eq_true.1 h j hj
  simp only [hoj, Bool.and_eq_true] at h1
  simp only [hoj, htj, Bool.and_eq_true]
  refine ⟨h1.1, List.all_eq_true.2 fun i hi => ?_⟩
  have h2 := List.all_eq_true.1 h1.2 i hi
  have hilt : i < ops.size := Nat.lt_trans (List.mem_range.1 hi) hlt
  have hoi : ops[i]? = some ops[i] := by simp [hilt]
  obtain ⟨si, hti⟩ := hget i ops[i] (by simp)
  simp only [hoi] at h2
  simp only [hoi, hti]
  rcases Bool.or_eq_true _ _ ▸ h2 with h2 | h2
  · rw [h2]; rfl
  · simp only [Bool.and_eq_true] at h2
    obtain ⟨⟨p1, p2⟩, p3⟩ := h2
    obtain ⟨w1, f1⟩ := isP_tch (s := si) p1
    obtain ⟨w2, f2⟩ := isP_tch (s := sj) p2
    have : (tch E si ops[i]).apart (tch E sj ops[j]) = true := by
      unfold Tch.apart
      rw [w1, w2, f1, f2]
      rfl
    rw [this, p3]
    simp

theorem filterMap_congr' {α β : Type} {f g : α → Option β} : ∀ {l : List α}, (∀ x ∈ l, f x = g x) → l.filterMap f = l.filterMap g
  | [], _ => rfl
  | x :: r, h => by
    rw [List.filterMap_cons, List.filterMap_cons, h x (by simp), filterMap_congr' fun y hy => h y (by simp [hy])]

/-- What has not come up yet, in text order. -/
def rest (ops : Array (Oper × Tch)) (listed : Array Bool) (k n : Nat) : List (Oper × Tch) := (List.range' k n).filterMap fun i => if listed.getD i true = true then none else ops[i]?

theorem rest_split {ops : Array (Oper × Tch)} (listed : Array Bool) {j : Nat} {oj : Oper × Tch} (hj : ops[j]? = some oj) (hl : listed.getD j true = false) {n : Nat} (hn : j < n) :
    rest ops listed 0 n = rest ops listed 0 j ++ oj :: rest ops listed (j + 1) (n - (j + 1)) := by
  unfold rest
  have : List.range' 0 n = List.range' 0 j ++ j :: List.range' (j + 1) (n - (j + 1)) := by
    have h1 := List.range'_append (s := 0) (m := j) (n := n - j) (step := 1)
    rw [show j + (n - j) = n from by omega] at h1
    rw [← h1]
    congr 1
    have h2 : n - j = (n - (j + 1)) + 1 := by omega
    rw [h2, List.range'_succ]
    simp
  rw [this, List.filterMap_append, List.filterMap_cons]
  have : (if listed.getD j true = true then none else ops[j]?) = some oj := by simp [hl, hj]
  rw [this]

theorem rest_congr {ops : Array (Oper × Tch)} {listed listed' : Array Bool} {k n : Nat} (h : ∀ i, k ≤ i → i < k + n → listed.getD i true = listed'.getD i true) : rest ops listed k n = rest ops listed' k n := by
  unfold rest
  apply filterMap_congr'
  intro i hi
  have := List.mem_range'_1.1 hi
  rw [h i this.1 this.2]

theorem rest_set {ops : Array (Oper × Tch)} (listed : Array Bool) {j n : Nat} (hn : j < n) (hs : j < listed.size) : rest ops (listed.setIfInBounds j true) 0 n = rest ops listed 0 j ++ rest ops listed (j + 1) (n - (j + 1)) := by
  have hj : (listed.setIfInBounds j true).getD j true = true := by simp [hs]
  unfold rest
  have hr : List.range' 0 n = List.range' 0 j ++ j :: List.range' (j + 1) (n - (j + 1)) := by
    have h1 := List.range'_append (s := 0) (m := j) (n := n - j) (step := 1)
    rw [show j + (n - j) = n from by omega] at h1
    rw [← h1]
    congr 1
    have h2 : n - j = (n - (j + 1)) + 1 := by omega
    rw [h2, List.range'_succ]
    simp
  rw [hr, List.filterMap_append, List.filterMap_cons]
  have : (if (listed.setIfInBounds j true).getD j true = true then none else ops[j]?) = none := by simp [hj]
  rw [this]
  simp only
  congr 1
  · exact rest_congr (ops := ops) (k := 0) (n := j) (fun i h1 h2 => getD_set_ne true (by omega))
  · exact rest_congr (ops := ops) (k := j + 1) (n := n - (j + 1)) (fun i h1 h2 => getD_set_ne true (by omega))

theorem any_sound (hE : E.ok) {ts : List Tch} (hB : anyT ops ts = true) {ao : Array (Oper × Tch)} (hao : ∀ (j : Nat) (o : Oper) (t : Tch), ao[j]? = some (o, t) ↔ ops[j]? = some o ∧ ts[j]? = some t) (hts : ∀ j : Nat, j < ops.size → ∃ t, ts[j]? = some t) {Q : Exit → Act → World → Prop} {s' : St} (hQ : ∀ φ' a' w', Rel w0 F φ' s' a' w' → Q .normal a' w') :
    ∀ (fuel : Nat) (listed : Array Bool) {φ : Nat → Place} {s : St} {a : Act} {w : World}, listed.size = ops.size →
      (∀ k ok, ops[k]? = some ok → listed.getD k true = true → ∀ i, ((ancL ops.toList []).getD k 0).testBit i = true → listed.getD i false = true) →
      (rest ao listed 0 ops.size).length ≤ fuel → Rel w0 F φ s a w → runT E ops (rest ao listed 0 ops.size) s (some s') → wpAny E.P .any ops Q fuel listed a w := by
  -- nothing is ready: nothing is left
  have hnone : ∀ (listed : Array Bool), listed.size = ops.size → Region.ready .any ops listed = [] → rest ao listed 0 ops.size = [] := by
    intro listed hsz hr
    have hall : ∀ n j, j < n → j < ops.size → listed.getD j true = true := by
      intro n
      induction n with
      | zero => intro j h; omega
      | succ n ih =>
        intro j hj hlt
        rcases Nat.lt_or_ge j n with h | h
        · exact ih j h hlt
        · have hjn : j = n := by omega
          subst hjn
          cases hl : listed.getD j true with
          | true => rfl
          | false =>
            have ho : ops[j]? = some ops[j] := by simp [hlt]
            obtain ⟨t, ht⟩ := hts j hlt
            obtain ⟨hb, _⟩ := anyT_spec hB ho ht
            have : j ∈ Region.ready .any ops listed := mem_ready.2 ⟨hl, _, ho, fun e he hbd => by
              have h1 := hb e he hbd
              have h2 := ih e.on h1 (by omega)
              have h3 : e.on < listed.size := by omega
              simp [h3] at h2 ⊢
              exact h2⟩
            rw [hr] at this
            cases this
    unfold rest
    rw [List.filterMap_eq_nil_iff]
    intro i hi
    have := List.mem_range'_1.1 hi
    rw [if_pos (hall (i + 1) i (by omega) (by omega))]
  intro fuel
  induction fuel with
  | zero =>
    intro listed φ s a w hsz hcl hlen h hs
    have hnil : rest ao listed 0 ops.size = [] := List.eq_nil_of_length_eq_zero (by omega)
    rw [hnil] at hs
    obtain rfl : s' = s := Option.some.inj hs
    refine ⟨?_, hQ _ _ _ h⟩
    apply List.eq_nil_iff_forall_not_mem.2
    intro j hj
    obtain ⟨h0, oj, hoj, _⟩ := mem_ready.1 hj
    obtain ⟨t, ht⟩ := hts j (Array.getElem?_eq_some_iff.1 hoj).1
    have := rest_split listed ((hao j oj t).2 ⟨hoj, ht⟩) h0 (n := ops.size) (Array.getElem?_eq_some_iff.1 hoj).1
    rw [hnil] at this
    simp at this
  | succ fuel ih =>
    intro listed φ s a w hsz hcl hlen h hs
    refine ⟨fun hr => ?_, fun j hj => ?_⟩
    · rw [hnone listed hsz hr] at hs
      obtain rfl : s' = s := Option.some.inj hs
      exact hQ _ _ _ h
    · obtain ⟨h0, oj, hoj, hall⟩ := mem_ready.1 hj
      have hjlt : j < ops.size := (Array.getElem?_eq_some_iff.1 hoj).1
      obtain ⟨tj, htj⟩ := hts j hjlt
      obtain ⟨hback, hcompat⟩ := anyT_spec hB hoj htj
      have hsp := rest_split listed ((hao j oj tj).2 ⟨hoj, htj⟩) h0 hjlt
      -- all ancestors have come up
      have hanc : ∀ i, ((ancL ops.toList []).getD j 0).testBit i = true → listed.getD i false = true := by
        intro i hi
        obtain ⟨e, he, hb, h1⟩ := anc_edge hoj hi
        have h2 := hall e he hb
        rcases h1 with h1 | h1
        · rw [← h1]; exact h2
        · have h3 : e.on < ops.size := Nat.lt_trans (hback e he hb) hjlt
          refine hcl e.on _ (Array.getElem?_eq_getElem h3) ?_ i h1
          have h4 : e.on < listed.size := by omega
          simp [h4] at h2 ⊢
          exact h2
      rw [hsp] at hs
      have hfront := runT_front (E := E) (ops := ops) (y := oj) (ty := tj) (rest ao listed 0 j) _ h.wf (fun x hx => by
        unfold rest at hx
        obtain ⟨i, hi, hx⟩ := List.mem_filterMap.1 hx
        have hi' := (List.mem_range'_1.1 hi).2
        split at hx
        · cases hx
        · next hl =>
          rcases hcompat i (by omega) with hb | ⟨oi, ti, hoi, hti, c1, c2⟩
          · have := hanc i hb
            have h4 : i < listed.size := by omega
            simp [h4] at this hl
            rw [this] at hl
            cases hl
          · rw [(hao i oi ti).2 ⟨hoi, hti⟩] at hx
            simp only [Option.some.injEq] at hx
            subst hx
            exact ⟨c2, c1⟩) hs
      obtain ⟨_, s1, hg, hfront⟩ := hfront
      · skip
        have hset := rest_set (ops := ao) listed hjlt (by omega)
        have hop := gstep_sound (ops := ops) hE h hg (wpAny E.P .any ops Q fuel (listed.setIfInBounds j true)) Q fun φ' a' w' h' => by
          refine ih (listed.setIfInBounds j true) (by simpa using hsz) ?_ ?_ h' ?_
          · intro k ok hk hkl i hi
            by_cases hkj : k = j
            · subst hkj
              exact getD_set_true (hanc i hi)
            · rw [getD_set_ne true (Ne.symm hkj)] at hkl
              exact getD_set_true (hcl k ok hk hkl i hi)
          · rw [hset]
            rw [hsp] at hlen
            simp at hlen ⊢
            omega
          · rw [hset]; exact hfront
        unfold wpOp
        simp only [hoj]
        split
        · next hw => rw [if_pos hw] at hop; exact .inl hop
        · next hw => rw [if_neg hw] at hop; exact hop

theorem rest_all {ops : Array (Oper × Tch)} : rest ops (Array.replicate ops.size false) 0 ops.size = ops.toList := by
  unfold rest
  apply List.ext_getElem?
  intro i
  have : (List.range' 0 ops.size).filterMap (fun i => if (Array.replicate ops.size false).getD i true = true then none else ops[i]?) = (List.range' 0 ops.size).filterMap fun i => ops[i]? := by
    apply filterMap_congr'
    intro i hi
    have := (List.mem_range'_1.1 hi).2
    have h : i < ops.size := by omega
    simp [h]
  rw [this]
  have : ∀ (l : List (Oper × Tch)) (k : Nat), (∀ j, l[j]? = ops[k + j]?) → (List.range' k l.length).filterMap (fun i => ops[i]?) = l := by
    intro l
    induction l with
    | nil => intro k _; rfl
    | cons o l ih =>
      intro k h
      have h0 : ops[k]? = some o := by simpa using (h 0).symm
      simp only [List.length_cons, List.range'_succ, List.filterMap_cons, h0]
      rw [ih (k + 1) fun j => by have := h (j + 1); simpa [Nat.add_assoc, Nat.add_comm 1 j] using this]
  have h := this ops.toList 0 (by simp)
  simp only [Array.length_toList] at h
  rw [h]

/-- **A region that draws its order.** -/
theorem region_anyT (hm : E.P.follows .mixedOrders = true) (hE : E.ok) {Q : Exit → Act → World → Prop} {φ : Nat → Place} {s s' : St} {a : Act} {w : World} {id : Nat}
    (h : Rel w0 F φ s a w) (hs : runL E ops ops.toList s = some s') (hB : anyT ops (tchs E ops ops.toList s) = true) (hQ : ∀ φ' a' w', Rel w0 F φ' s' a' w' → Q .normal a' w') : (Code.region id ops true).wp E.P Q a w := by
  obtain ⟨hlen, hrun, hget⟩ := tchs_get ops.toList hs
  generalize tchs E ops ops.toList s = ts at hlen hrun hget hB
  have hsz : (ops.toList.zip ts).toArray.size = ops.size := by simp [hlen]
  refine wp_region_any hm (any_sound hE hB (ao := (ops.toList.zip ts).toArray) (fun j o t => ?_) (fun j hj => ?_) hQ ops.size _ (by simp) ?_ ?_ (h.world rfl rfl rfl rfl) ?_)
  · simp [List.getElem?_zip_eq_some]
  · obtain ⟨s1, h1⟩ := hget j ops[j] (by simp [hj])
    exact ⟨_, h1⟩
  · intro k ok hk hkl
    have hlt : k < ops.size := (Array.getElem?_eq_some_iff.1 hk).1
    simp [hlt] at hkl
  · rw [← hsz, rest_all]; simp
  · rw [← hsz, rest_all]; exact hrun

theorem region_any (hm : E.P.follows .mixedOrders = true) (hE : E.ok) (hB : anyB E ops = true) {Q : Exit → Act → World → Prop} {φ : Nat → Place} {s s' : St} {a : Act} {w : World} {id : Nat}
    (h : Rel w0 F φ s a w) (hs : runL E ops ops.toList s = some s') (hQ : ∀ φ' a' w', Rel w0 F φ' s' a' w' → Q .normal a' w') : (Code.region id ops true).wp E.P Q a w :=
  region_anyT hm hE h hs (anyB_T hB hs) hQ

theorem region_text (hE : E.ok) {Q : Exit → Act → World → Prop} {φ : Nat → Place} {s s' : St} {a : Act} {w : World} {id : Nat}
    (h : Rel w0 F φ s a w) (hs : runL E ops ops.toList s = some s') (hQ : ∀ φ' a' w', Rel w0 F φ' s' a' w' → Q .normal a' w') : (Code.region id ops false).wp E.P Q a w :=
  wp_region_list (runL_sound hE ops.toList h hs hQ)

end
end Go.Sx
