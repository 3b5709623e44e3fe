/-
  Stores into variables and lists of the call's own.
-/
import Derived.Test.YtagooceoocohpaaSyI
set_option linter.unusedVariables false
namespace Go.Sx

def storeOp (P : Program) (ρ : Operand → SV) (V : Nat → Option AObj) : Op → Option (Bool × Nat × AObj)
  | .store t p x => (match P.underlying t, (ρ x).cks with
    | some _, some new => if Cks.size new = P.cellsOf t then (match ρ p with
      | .sc (.ptr i off) => (match V i with
        | some (.var cs) => (match putCks cs off new with
          | some cs' => some (true, i, .var cs')
          | none => none)
        | _ => none)
      | .sc (.pel i off n e) => (match V i, new with
        | some (.var cs), [.int k x] => (match midCks cs off n with
          | some [.arr k' n' f] => if k = k' ∧ n' = n then (match putCks cs off [.arr k n (updA f e.toNat x)] with
            | some cs' => some (true, i, .var cs')
            | none => none) else none
          | _ => none)
        | _, _ => none)
      | .sc (.pls i sz e fo) => (match V i with
        | some (.list T xs true) => if sz = T.size then (match putCks (T.enc (xs.getD e.toNat T.dflt)) fo new with
          | some cs' => (match T.dec1 cs' with
            | some y => some (decide (e.toNat < xs.length), i, .list T (xs.set e.toNat y) true)
            | none => none)
          | none => none) else none
        | _ => none)
      | _ => none) else none
    | _, _ => none)
  | _ => none

def Mem.set (m : Mem) (i : Nat) (o : AObj) : Mem := { m with objs := fun j => if j = i then some o else m.objs j }

theorem Mem.set_eq (m : Mem) (i : Nat) (o : AObj) : m.set i o = { m with objs := (m.add i o).objs } := rfl

section
variable {P : Program} {φ : Nat → Place} {s : St} {w0 : World} {F : Fp} {a : Act} {w : World}

/-- Cells written into a block that may be written. -/
theorem store_run {t : TypeId} {d : TypeDesc} {v : Value} {b o E lo hi : Nat} {arr : Array Value} (hd : P.underlying t = some d) (hsz : v.cells.size = P.cellsOf t)
    (hsc : ∀ x ∈ v.cells.toList, scalar x) (hw : w.heap[b]? = some (.cells arr E (lo, hi))) (hfr : hi ≤ lo ∨ arr.size ≤ lo) (hle : o + v.cells.size ≤ arr.size) :
    ∃ w' arr', (storeVar t ⟨b, o, none⟩ v).run P w = .ok () w' ∧ But b w w' ∧ w'.heap[b]? = some (.cells arr' E (lo, hi)) ∧
      arr'.toList = arr.toList.take o ++ v.cells.toList ++ arr.toList.drop (o + v.cells.toList.length) := by
  obtain ⟨w', arr', g1, g2, g3, g4⟩ := run_storeCells P (o := o) v.cells.toList 0 w arr hw (by simpa using hle) hfr hsc
  refine ⟨w', arr', ?_, g2, g3, by simpa using g4⟩
  simp only [storeVar, Sem.run_bind, run_sizeOf (info_of_underlying hd), Result.andThen_ok]
  rw [if_neg (by simp [hsz])]
  exact g1

theorem ownBlock_var {i b : Nat} {cs : List Ck} (h : Rel w0 F φ s a w) (hm : s.mem.objs i = some (.var cs)) (hb : (φ i).base = some ⟨b, 0, none⟩) : ownBlock φ s.mem.objs i b := .inl ⟨cs, hm, hb⟩

theorem Rel.writeVar {i b E lo hi : Nat} {cs cs' : List Ck} {arr' : Array Value} {w' : World} (h : Rel w0 F φ s a w) (hT : s.mem.tmps = []) (hm : s.mem.objs i = some (.var cs)) (hb : (φ i).base = some ⟨b, 0, none⟩)
    (hbut : But b w w') (hw : w'.heap[b]? = some (.cells arr' E (lo, hi))) (hf : FlatR φ s.mem.objs cs' arr'.toList) (hfr : hi ≤ lo ∨ arr'.size ≤ lo) (hids : ∀ j ∈ Cks.ids cs', s.mem.used j = true) :
    Rel w0 F φ { s with mem := s.mem.set i (.var cs') } a w' := by
  rw [Mem.set_eq]
  have hNF : w0.heap.size ≤ b ∨ F b := by
    obtain ⟨b', arr, E, lo, hi, q1, q2, q3, q4, q5⟩ := h.mem i _ hm
    rw [hb] at q1; simp at q1; subst q1; exact q5
  refine h.write (.inl hT) hm (ownBlock_var h hm hb) hbut.other hbut.size hbut.os hbut.tape hbut.output ?_ hids (fun T xs ow e => by cases e) (fun cs e => ⟨_, rfl⟩) (fun K V es e => by cases e)
  refine ⟨b, arr', E, lo, hi, hb, hw, hf.keep fun j hj => ⟨rfl, fun T xs o hj' => ?_⟩, hfr, hNF⟩
  by_cases e : j = i
  · subst e; simp [Mem.add] at hj'
  · exact ⟨T, xs, o, by simpa [Mem.add, e] using hj', rfl⟩

theorem Rel.writeList {i b o E lo hi : Nat} {T : Ty} {xs ys : List T.den} {arr arr' : Array Value} {pre post : List Value} {w' : World} (h : Rel w0 F φ s a w) (hT : s.mem.tmps = []) (hm : s.mem.objs i = some (.list T xs true)) (hne : xs ≠ [])
    (hb : (φ i).base = some ⟨b, o, none⟩) (hbut : But b w w') (hw : w'.heap[b]? = some (.cells arr' E (lo, hi))) (hf : arr'.toList = pre ++ ys.flatMap T.cells ++ post) (hp : pre.length = o) (hlen : ys.length = xs.length)
    (hw0 : w.heap[b]? = some (.cells arr E (lo, hi))) (hsz : arr'.size = arr.size) :
    Rel w0 F φ { s with mem := s.mem.set i (.list T ys true) } a w' := by
  rw [Mem.set_eq]
  rcases h.mem i _ hm with ⟨h1, _⟩ | ⟨b', o', arr0, E0, lo0, hi0, pre0, post0, q1, q2, q3, q4, q5, q6⟩
  · exact absurd h1 hne
  rw [hb] at q1; simp at q1; obtain ⟨rfl, rfl⟩ := q1
  rw [hw0] at q2; simp at q2; obtain ⟨rfl, rfl, rfl, rfl⟩ := q2
  obtain ⟨c1, q6⟩ := q6
  obtain ⟨c2, c3⟩ := q6 rfl
  have hcap : (φ i).cap ≠ 0 := by
    intro e; rw [e] at q5; exact hne (List.length_eq_zero_iff.1 (by omega))
  refine h.write (.inl hT) hm (.inr (.inl ⟨T, xs, _, hm, hb, hcap⟩)) hbut.other hbut.size hbut.os hbut.tape hbut.output ?_ (by simp [AObj.ids]) (fun T' xs' ow e => by cases e; exact ⟨T, xs, true, rfl, hlen.symm, rfl⟩) (fun cs e => by cases e) (fun K V es e => by cases e)
  exact .inr ⟨b, o, arr', _, _, _, pre, post, hb, hw, hf, hp, by omega, by omega, fun _ => ⟨by rw [hsz]; exact c2, c3⟩⟩

theorem storeOp_sound {ρ : Operand → SV} {o : Oper} {ob : AObj} {i : Nat} (h : Rel w0 F φ s a w) (hT : s.mem.tmps = []) (hρ : ∀ x, (ρ x).R φ s.mem.objs (a.eval x)) (hids : ∀ x, ∀ j ∈ (ρ x).ids, s.mem.used j = true)
    (ho : storeOp P ρ s.mem.objs o.op = some (true, i, ob)) :
    ∃ w', (execOp a.eval o).run P w = .ok .skip w' ∧ Rel w0 F φ { s with mem := s.mem.set i ob } a w' := by
  unfold execOp
  generalize o.op = op at ho
  cases op with
  | store t p x =>
    have hp := hρ p; have hx := hρ x
    simp only [storeOp] at ho
    split at ho
    · next d new hd hnew =>
      obtain ⟨hxf, hxids⟩ := SV.cks_R hnew hx
      have hlenx := hxf.length
      split at ho
      · next hsz =>
        have hvs : (a.eval x).cells.size = P.cellsOf t := by rw [← hsz, ← hlenx]; simp
        suffices hs : ∃ w', (Instr.storeAt t (a.eval p) (a.eval x)).run P w = .ok () w' ∧ Rel w0 F φ { s with mem := s.mem.set i ob } a w' by
          obtain ⟨w', h1, h2⟩ := hs
          exact ⟨w', by simp [h1], h2⟩
        split at ho
        · next i' off e1 =>
          rw [e1] at hp
          obtain ⟨b, hb, el⟩ := R_ptr hp
          split at ho
          · next cs hV =>
            split at ho
            · next cs' hput =>
              simp at ho; obtain ⟨rfl, rfl⟩ := ho
              obtain ⟨b', arr, E, lo, hi, q1, q2, q3, q4, q5⟩ := h.mem i' _ hV
              rw [hb] at q1; simp at q1; subst q1
              obtain ⟨p1, p2, p3⟩ := putCks_spec hput q3 hxf
              rw [Array.length_toList] at p2
              obtain ⟨w', arr', g1, g2, g3, g4⟩ := store_run hd hvs hxf.scalar q2 q4 (by simpa using p2)
              rw [← g4] at p1
              have hasz : arr'.size = arr.size := by rw [← Array.length_toList, g4]; simp; simp at p2; omega
              refine ⟨w', by simpa [Instr.storeAt, Instr.sureAddr, el] using g1, h.writeVar hT hV hb g2 g3 p1 (by rw [hasz]; exact q4) fun j hj => ?_⟩
              rcases p3 j hj with hj | hj
              · exact h.objids i' _ hV j hj
              · exact hids x j (hxids j hj)
            · cases ho
          · cases ho
        · next i' off n e e1 =>
          rw [e1] at hp
          obtain ⟨b, hb, el, he0, hen⟩ := hp
          simp at el
          split at ho
          · next cs k xv hV =>
            split at ho
            · next k' n' f hmid =>
              split at ho
              · next hk =>
                obtain ⟨rfl, rfl⟩ := hk
                split at ho
                · next cs' hput =>
                  simp at ho; obtain ⟨rfl, rfl⟩ := ho
                  obtain ⟨b', arr, E, lo, hi, q1, q2, q3, q4, q5⟩ := h.mem i' _ hV
                  rw [hb] at q1; simp at q1; subst q1
                  obtain ⟨m1, m2, m3⟩ := midCks_spec hmid q3
                  have m4 := arr_single (v := .nilFunc) rfl m1
                  rw [Array.length_toList] at m2
                  have hxc : (a.eval x).cells.toList = [.int k xv] := by
                    obtain ⟨l1, l2, e2, h1, h2⟩ := hxf
                    simp only [FlatR] at h2; subst h2
                    simp only [Ck.R] at h1; rw [e2, h1]; rfl
                  have hlt : e.toNat < n' := by omega
                  obtain ⟨w', arr', g1, g2, g3, g4⟩ := store_run (o := off + e.toNat) hd hvs hxf.scalar q2 q4 (by rw [← Array.length_toList, hxc]; simp; omega)
                  have hnewf : FlatR φ s.mem.objs [.arr k n' (updA f e.toNat xv)] ((List.range n').map fun i => Value.int k (updA f e.toNat xv i)) := FlatR.of_single rfl
                  obtain ⟨p1, p2, p3⟩ := putCks_spec hput q3 hnewf
                  have harr : arr'.toList = arr.toList.take off ++ ((List.range n').map fun i => Value.int k (updA f e.toNat xv i)) ++ arr.toList.drop (off + ((List.range n').map fun i => Value.int k (updA f e.toNat xv i)).length) := by
                    rw [g4, hxc, set_map_range k n' e.toNat f xv hlt, ← m4]
                    apply List.ext_getElem?
                    intro j
                    have hl : arr.toList.length = arr.size := Array.length_toList
                    simp only [List.length_cons, List.length_nil, List.getElem?_append, List.getElem?_take, List.getElem?_drop, List.length_take, List.length_append, List.length_drop, hl]
                    rcases Nat.lt_or_ge j off with h1 | h1
                    · repeat (first | rw [if_pos (by omega)] | rw [if_neg (by omega)])
                    · rcases Nat.lt_trichotomy j (off + e.toNat) with h2 | h2 | h2
                      · repeat (first | rw [if_pos (by omega)] | rw [if_neg (by omega)])
                        congr 1; omega
                      · repeat (first | rw [if_pos (by omega)] | rw [if_neg (by omega)])
                        congr 1; omega
                      · rcases Nat.lt_or_ge j (off + n') with h3 | h3
                        · repeat (first | rw [if_pos (by omega)] | rw [if_neg (by omega)])
                          congr 1; omega
                        · repeat (first | rw [if_pos (by omega)] | rw [if_neg (by omega)])
                          congr 1; omega
                  rw [← harr] at p1
                  have hasz : arr'.size = arr.size := by rw [← Array.length_toList, g4, hxc]; simp; omega
                  refine ⟨w', by simpa [Instr.storeAt, Instr.sureAddr, el] using g1, h.writeVar hT hV hb g2 g3 p1 (by rw [hasz]; exact q4) fun j hj => ?_⟩
                  rcases p3 j hj with hj | hj
                  · exact h.objids i' _ hV j hj
                  · simp [Cks.ids, Ck.ids] at hj
                · cases ho
              · cases ho
            · cases ho
          · cases ho
        · next i' sz e fo e1 =>
          rw [e1] at hp
          obtain ⟨b, of, hb, el, he0⟩ := R_pls hp
          split at ho
          · next T xs hV =>
            split at ho
            · next hs =>
              subst hs
              split at ho
              · next cs' hput =>
                split at ho
                · next y hy =>
                  simp only [Option.some.injEq, Prod.mk.injEq] at ho
                  obtain ⟨hlt, rfl, rfl⟩ := ho
                  have hlt := of_decide_eq_true hlt
                  have hne : xs ≠ [] := by intro e; subst e; simp at hlt
                  rcases h.mem i' _ hV with ⟨h1, _⟩ | ⟨b', o', arr, E, lo, hi, pre, post, q1, q2, q3, q4, q5, q6⟩
                  · exact absurd h1 hne
                  rw [hb] at q1; simp at q1; obtain ⟨rfl, rfl⟩ := q1
                  obtain ⟨c1, q6⟩ := q6
                  obtain ⟨c2, c3⟩ := q6 rfl
                  obtain ⟨p1, p2, p3⟩ := putCks_spec hput (FlatR.enc (φ := φ) (m := s.mem.objs) T (xs.getD e.toNat T.dflt)) hxf
                  have hcells := FlatR.dec1 hy p1
                  rw [Ty.cells_length] at p2
                  have hsplit := flatMap_split xs e.toNat hlt
                  have hasz0 : arr.size = pre.length + xs.length * T.size + post.length := by rw [← Array.length_toList, q3, List.length_append, List.length_append, flatMap_length]
                  have hmul : e.toNat * T.size + T.size ≤ xs.length * T.size := by
                    have := Nat.mul_le_mul_right T.size (show e.toNat + 1 ≤ xs.length from hlt)
                    rw [Nat.add_mul, Nat.one_mul] at this; exact this
                  obtain ⟨w', arr', g1, g2, g3, g4⟩ := store_run (o := of + e.toNat * T.size + fo) hd hvs hxf.scalar q2 c2 (by rw [← Array.length_toList]; omega)
                  have hasz : arr'.size = arr.size := by rw [← Array.length_toList, g4]; simp; simp at p2; omega
                  refine ⟨w', by simpa [Instr.storeAt, Instr.sureAddr, el] using g1, h.writeList hT hV hne hb g2 g3 (pre := pre) (post := post) ?_ q4 (by simp) q2 hasz⟩
                  have hset : (xs.set e.toNat y).flatMap T.cells = (xs.take e.toNat).flatMap T.cells ++ T.cells y ++ (xs.drop (e.toNat + 1)).flatMap T.cells := by
                    rw [List.set_eq_take_append_cons_drop, if_pos hlt, List.flatMap_append, List.flatMap_cons, List.append_assoc]
                  rw [g4, hset, ← hcells, q3, hsplit]
                  have hl1 : (pre ++ (xs.take e.toNat).flatMap T.cells).length = of + e.toNat * T.size := by
                    rw [List.length_append, q4, flatMap_length, List.length_take, Nat.min_eq_left (by omega)]
                  have hl2 := Ty.cells_length T (xs.getD e.toNat T.dflt)
                  generalize T.cells (xs.getD e.toNat T.dflt) = C at *
                  generalize (xs.drop (e.toNat + 1)).flatMap T.cells = D at *
                  rw [show pre ++ ((xs.take e.toNat).flatMap T.cells ++ C ++ D) ++ post = (pre ++ (xs.take e.toNat).flatMap T.cells) ++ (C ++ (D ++ post)) by simp]
                  rw [show pre ++ ((xs.take e.toNat).flatMap T.cells ++ (C.take fo ++ (a.eval x).cells.toList ++ C.drop (fo + (a.eval x).cells.toList.length)) ++ D) ++ post
                    = (pre ++ (xs.take e.toNat).flatMap T.cells) ++ (C.take fo ++ (a.eval x).cells.toList ++ C.drop (fo + (a.eval x).cells.toList.length) ++ (D ++ post)) by simp]
                  generalize pre ++ (xs.take e.toNat).flatMap T.cells = A at *
                  rw [← hl1, List.take_append, List.take_of_length_le (by omega), Nat.add_sub_cancel_left]
                  rw [show A.length + fo + (a.eval x).cells.toList.length = A.length + (fo + (a.eval x).cells.toList.length) by omega, List.drop_append, List.drop_of_length_le (by omega), Nat.add_sub_cancel_left, List.nil_append]
                  rw [List.take_append_of_le_length (by omega), List.drop_append_of_le_length (by omega)]
                  simp
                · cases ho
              · cases ho
            · cases ho
          · cases ho
        · cases ho
      · cases ho
    · cases ho
  | _ => simp [storeOp] at ho
end

end Go.Sx
