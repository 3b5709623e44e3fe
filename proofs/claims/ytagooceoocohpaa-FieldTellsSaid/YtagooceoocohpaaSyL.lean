/-
  copy.
-/
import Derived.Test.YtagooceoocohpaaSyK
set_option linter.unusedVariables false
namespace Go.Sx

def copyA (f : Nat → Int) (lo m : Nat) (ys : List Int) : Nat → Int := fun j => if lo ≤ j ∧ j < lo + m then ys.getD (j - lo) 0 else f j

def copyOp (P : Program) (ρ : Operand → SV) (V : Nat → Option AObj) : Op → Option (Bool × Int × Nat × AObj)
  | .call { callee := .builtin .copy, args, argTypes } => (match args.toList, argTypes.toList with
    | [x, y], (tx :: _) => (match P.underlying tx with
      | some (.slice e) => (match P.underlying e, ρ x, ρ y with
        | some _, .sc (.awin i off N lo n), .sc cy => (match V i with
          | some (.var cs) => (match midCks cs off N with
            | some [.arr k N' f] => if N' = N ∧ P.cellsOf e = 1 then (match rowOf V (.int k) cy with
              | some (b, ys) => (match putCks cs off [.arr k N (copyA f lo.toNat (min (List.length ys) n.toNat) ys)] with
                | some cs' => some (b, ((min (List.length ys) n.toNat : Nat) : Int), i, .var cs')
                | none => none)
              | none => none) else none
            | _ => none)
          | _ => none)
        | some _, .sc (.sl i), .sc cy => (match V i with
          | some (.list T xs true) => if T.size = P.cellsOf e then (match rowOf V T cy with
            | some (b, ys) => some (b, ((min (List.length ys) (List.length xs) : Nat) : Int), i, .list T (ys.take (min (List.length ys) (List.length xs)) ++ xs.drop (min (List.length ys) (List.length xs))) true)
            | none => none) else none
          | _ => none)
        | _, _, _ => none)
      | _ => none)
    | _, _ => none)
  | _ => none

theorem splice_copy (k : IntKind) (N lo m : Nat) (f : Nat → Int) (ys : List Int) (hm : m ≤ ys.length) (hle : lo + m ≤ N) :
    (List.range N).map (fun i => Value.int k (copyA f lo m ys i)) = ((List.range N).map fun i => Value.int k (f i)).take lo ++ (ys.take m).map (Value.int k) ++ ((List.range N).map fun i => Value.int k (f i)).drop (lo + m) := by
  apply List.ext_getElem?
  intro j
  simp only [List.getElem?_append, List.getElem?_map, List.getElem?_take, List.getElem?_drop, List.length_take, List.length_append, List.length_map, List.length_range, copyA]
  rw [Nat.min_eq_left (show lo ≤ N by omega), Nat.min_eq_left hm]
  rcases Nat.lt_or_ge j lo with h1 | h1
  · rw [if_pos (by omega), if_pos h1, if_pos h1]
    simp [show j < N by omega, show ¬ lo ≤ j by omega]
  · rcases Nat.lt_or_ge j (lo + m) with h2 | h2
    · rw [if_pos (by omega), if_neg (by omega), if_pos (by omega)]
      simp [show j < N by omega, h1, h2]
      simp [show j - lo < ys.length by omega]
    · rw [if_neg (by omega), show lo + m + (j - (lo + m)) = j by omega]
      rcases Nat.lt_or_ge j N with h3 | h3
      · simp [h3, show ¬ j < lo + m by omega]
      · rw [List.getElem?_eq_none (by simpa using h3)]
        rfl

section
variable {P : Program} {φ : Nat → Place} {s : St} {w0 : World} {F : Fp} {a : Act} {w : World}

theorem copyOp_sound {ρ : Operand → SV} {o : Oper} {ob : AObj} {r : Int} {i : Nat} (h : Rel w0 F φ s a w) (hT : s.mem.tmps = []) (hρ : ∀ x, (ρ x).R φ s.mem.objs (a.eval x))
    (ho : copyOp P ρ s.mem.objs o.op = some (true, r, i, ob)) :
    ∃ w', (execOp a.eval o).run P w = .ok (.value (.int .i64 r)) w' ∧ Rel w0 F φ { s with mem := s.mem.set i ob } a w' := by
  unfold execOp
  generalize o.op = op at ho
  cases op with
  | call c =>
    obtain ⟨callee, args, argTypes⟩ := c
    cases callee with
    | builtin bi =>
      cases bi with
      | copy =>
        simp only [copyOp] at ho
        split at ho
        · next x y tx tr ea et =>
          have ha0 : args = #[x, y] := by apply Array.toList_inj.1; rw [ea]
          have ht0 : argTypes[0]? = some tx := by rw [← Array.getElem?_toList, et]; rfl
          subst ha0
          have hx := hρ x; have hy := hρ y
          split at ho
          · next e hu =>
            suffices hs : ∃ w', (Builtin.copy_ argTypes o.type #[a.eval x, a.eval y]).run P w = .ok (.int .i64 r) w' ∧ Rel w0 F φ { s with mem := s.mem.set i ob } a w' by
              obtain ⟨w', g1, g2⟩ := hs
              exact ⟨w', by simp [resolve, invoke, builtin, g1], g2⟩
            split at ho
            · next d i' off N lo n cy hd e1 e2 =>
              rw [e1] at hx; rw [e2] at hy
              obtain ⟨ba, c, ex, hc1, hlo, hn0, hN, hbd⟩ := hx
              simp at ex
              split at ho
              · next cs hV =>
                split at ho
                · next k N' f hmid =>
                  split at ho
                  · next hcnd =>
                    obtain ⟨rfl, hsz⟩ := hcnd
                    split at ho
                    · next b ys0 hrow =>
                      obtain ⟨ys, hys⟩ : ∃ ys : List Int, ys = ys0 := ⟨ys0, rfl⟩
                      subst hys
                      split at ho
                      · next cs' hput =>
                        simp only [Option.some.injEq, Prod.mk.injEq] at ho
                        obtain ⟨rfl, hr, rfl, rfl⟩ := ho
                        obtain ⟨hlen, hfirst⟩ := rowOf_cells (P := P) h.mem hrow hy
                        have hlen' : (Builtin.lenOf (a.eval y)).run P w = .ok ys.length w := hlen
                        obtain ⟨mm, hm⟩ : ∃ mm, min ys.length n.toNat = mm := ⟨_, rfl⟩
                        have hr' : r = (mm : Int) := hr.symm.trans (congrArg (fun q : Nat => (q : Int)) hm)
                        subst hr'
                        have hput : putCks cs off [.arr k N' (copyA f lo.toNat mm ys)] = some cs' := by rw [← hm]; exact hput
                        have hfirst' : (Builtin.firstCells 1 mm (a.eval y)).run P w = .ok ((ys.take mm).map (Value.int k)).toArray w := by
                          have := hfirst mm (show mm ≤ ys.length by omega)
                          refine (show (Builtin.firstCells 1 mm (a.eval y)).run P w = _ from this).trans ?_
                          congr 2; exact flatMap_int _
                        obtain ⟨b', arr, E, l, hi, q1, q2, q3, q4, q5⟩ := h.mem i' _ hV
                        obtain ⟨m1, m2, m3⟩ := midCks_spec hmid q3
                        have m4 := arr_single (v := .nilFunc) rfl m1
                        rw [Array.length_toList] at m2
                        have hpre : (Builtin.copy_ argTypes o.type #[a.eval x, a.eval y]).run P w = ((if let some ad := ba then storeCells ad ((ys.take mm).map (Value.int k)) else pure ()).run P w).andThen fun _ w' => .ok (.int .i64 mm) w' := by
                          rw [ex]
                          simp only [Builtin.copy_, ht0, List.getElem?_toArray, List.getElem?_cons_zero, List.getElem?_cons_succ, Sem.run_bind, run_underlying hu, hlen', Result.andThen_ok, run_sizeOf (info_of_underlying hd), hsz]
                          rw [show Nat.min ys.length n.toNat = mm from hm, hfirst']
                          simp only [Result.andThen_ok]
                          cases ba with
                          | none => rfl
                          | some ad => simp [goInt]
                        have hnewf : FlatR φ s.mem.objs [.arr k N' (copyA f lo.toNat mm ys)] ((List.range N').map fun i => Value.int k (copyA f lo.toNat mm ys i)) := FlatR.of_single rfl
                        obtain ⟨p1, p2, p3⟩ := putCks_spec hput q3 hnewf
                        have hids' : ∀ j ∈ Cks.ids cs', s.mem.used j = true := fun j hj => by
                          rcases p3 j hj with hj | hj
                          · exact h.objids i' _ hV j hj
                          · simp [Cks.ids, Ck.ids] at hj
                        have hcells : ∀ X, arr.toList.take off ++ ((List.range N').map fun i => Value.int k (copyA f lo.toNat mm ys i)) ++ arr.toList.drop (off + N') = X →
                            X = arr.toList.take (off + lo.toNat) ++ (ys.take mm).map (Value.int k) ++ arr.toList.drop (off + lo.toNat + ((ys.take mm).map (Value.int k)).length) := fun X hX => by
                          rw [← hX, splice_copy k N' lo.toNat mm f ys (by omega) (by omega), ← m4]
                          apply List.ext_getElem?
                          intro j
                          have hl : arr.toList.length = arr.size := Array.length_toList
                          simp only [List.length_map, List.getElem?_append, List.getElem?_take, List.getElem?_drop, List.length_take, List.length_append, List.length_drop, hl, List.getElem?_map]
                          rcases Nat.lt_or_ge j off with h1 | h1
                          · repeat (first | rw [if_pos (by omega)] | rw [if_neg (by omega)])
                          · rcases Nat.lt_or_ge j (off + lo.toNat) with h2 | h2
                            · repeat (first | rw [if_pos (by omega)] | rw [if_neg (by omega)])
                              congr 1; omega
                            · rcases Nat.lt_or_ge j (off + lo.toNat + mm) with h3 | h3
                              · repeat (first | rw [if_pos (by omega)] | rw [if_neg (by omega)])
                                congr 2; omega
                              · rcases Nat.lt_or_ge j (off + N') with h4 | h4
                                · repeat (first | rw [if_pos (by omega)] | rw [if_neg (by omega)])
                                  congr 1; omega
                                · repeat (first | rw [if_pos (by omega)] | rw [if_neg (by omega)])
                                  congr 1; omega
                        simp only [List.length_map, List.length_range] at p1
                        rw [hcells _ rfl] at p1
                        by_cases hn : c = 0
                        · -- nothing is copied
                          have hmm : mm = 0 := by omega
                          subst hmm
                          refine ⟨w, ?_, h.writeVar hT hV q1 (But.refl _ _) q2 (by simpa using p1) q4 hids'⟩
                          rw [hpre]
                          cases ba with
                          | none => rfl
                          | some ad => simp [storeCells]
                        · rcases hbd with hbd | ⟨_, b2, hb2, rfl⟩
                          · exact absurd hbd hn
                          · rw [hb2] at q1; simp at q1; subst q1
                            obtain ⟨w', arr', g1, g2, g3, g4⟩ := run_storeCells P (o := off + lo.toNat) ((ys.take mm).map (Value.int k)) 0 w arr q2 (by simp; omega) q4 (fun v hv => by
                              obtain ⟨z, _, rfl⟩ := List.mem_map.1 hv; trivial)
                            simp only [Nat.add_zero] at g4
                            rw [← g4] at p1
                            have hasz : arr'.size = arr.size := by rw [← Array.length_toList, g4]; simp; omega
                            exact ⟨w', by rw [hpre]; simp only [g1, Result.andThen_ok], h.writeVar hT hV hb2 g2 g3 p1 (by rw [hasz]; exact q4) hids'⟩
                      · cases ho
                    · cases ho
                  · cases ho
                · cases ho
              · cases ho
            · next d i' cy hd e1 e2 =>
              rw [e1] at hx; rw [e2] at hy
              split at ho
              · next T xs hV =>
                split at ho
                · next hsz =>
                  split at ho
                  · next b ys hrow =>
                    simp only [Option.some.injEq, Prod.mk.injEq] at ho
                    obtain ⟨rfl, hr, rfl, rfl⟩ := ho
                    subst hr
                    obtain ⟨hlen, hfirst⟩ := rowOf_cells (P := P) h.mem hrow hy
                    have hxv := R_sl hV hx
                    generalize hm : min ys.length xs.length = mm at *
                    have hfirst' := hfirst mm (by omega)
                    have hpre : (Builtin.copy_ argTypes o.type #[a.eval x, a.eval y]).run P w = ((if let some ad := (φ i').base then storeCells ad ((ys.take mm).flatMap T.cells) else pure ()).run P w).andThen fun _ w' => .ok (.int .i64 mm) w' := by
                      rw [hxv]
                      simp only [Builtin.copy_, ht0, List.getElem?_toArray, List.getElem?_cons_zero, List.getElem?_cons_succ, Sem.run_bind, run_underlying hu, hlen, Result.andThen_ok, run_sizeOf (info_of_underlying hd), ← hsz]
                      rw [show Nat.min ys.length xs.length = mm from hm, hfirst']
                      simp only [Result.andThen_ok]
                      cases (φ i').base with
                      | none => rfl
                      | some ad => simp [goInt]
                    by_cases hne : xs = []
                    · subst hne
                      have hmm : mm = 0 := by simp at hm; omega
                      subst hmm
                      refine ⟨w, ?_, ?_⟩
                      · rw [hpre]
                        cases (φ i').base with
                        | none => rfl
                        | some ad => simp [storeCells]
                      · have e0 : s.mem.set i' (.list T (List.take 0 ys ++ List.drop 0 []) true) = s.mem := by
                          simp only [Mem.set, List.take_zero, List.drop_nil, List.append_nil]
                          congr 1
                          funext j
                          split
                          · next e => subst e; exact hV.symm
                          · rfl
                        rw [e0]; exact h
                    · rcases h.mem i' _ hV with ⟨h1, _⟩ | ⟨b', of, arr, E, lo, hi, pre, post, q1, q2, q3, q4, q5, q6⟩
                      · exact absurd h1 hne
                      obtain ⟨c1, q6⟩ := q6
                      obtain ⟨c2, c3⟩ := q6 rfl
                      have hmul : mm * T.size ≤ xs.length * T.size := Nat.mul_le_mul_right _ (by omega)
                      have hasz0 : arr.size = of + xs.length * T.size + post.length := by rw [← Array.length_toList, q3, List.length_append, List.length_append, flatMap_length, q4]
                      have htl : ((ys.take mm).flatMap T.cells).length = mm * T.size := by rw [flatMap_length, List.length_take, Nat.min_eq_left (by omega)]
                      obtain ⟨w', arr', g1, g2, g3, g4⟩ := run_storeCells P (o := of) ((ys.take mm).flatMap T.cells) 0 w arr q2 (by rw [htl]; omega) c2 (fun v hv => by
                        obtain ⟨yv, _, hyv⟩ := List.mem_flatMap.1 hv
                        exact FlatR.scalar (FlatR.enc (φ := φ) (m := s.mem.objs) T yv) v hyv)
                      have hsplit : xs.flatMap T.cells = (xs.take mm).flatMap T.cells ++ (xs.drop mm).flatMap T.cells := by rw [← List.flatMap_append, List.take_append_drop]
                      have hxl : ((xs.take mm).flatMap T.cells).length = mm * T.size := by rw [flatMap_length, List.length_take, Nat.min_eq_left (by omega)]
                      have harr' : arr'.toList = pre ++ (ys.take mm ++ xs.drop mm).flatMap T.cells ++ post := by
                        rw [g4, Nat.add_zero, htl, q3, hsplit, List.flatMap_append, ← q4]
                        simp only [List.append_assoc]
                        rw [List.take_left, ← List.drop_drop, List.drop_left, ← hxl, List.drop_left]
                      have hasz : arr'.size = arr.size := by
                        rw [← Array.length_toList, harr', List.length_append, List.length_append, List.flatMap_append, List.length_append, htl, flatMap_length, List.length_drop, q4]
                        have : mm * T.size + (xs.length - mm) * T.size = xs.length * T.size := by rw [← Nat.add_mul]; congr 1; omega
                        omega
                      refine ⟨w', ?_, h.writeList hT hV hne q1 g2 g3 harr' q4 (by simp; omega) q2 hasz⟩
                      rw [hpre, q1]
                      simp only [g1, Result.andThen_ok]
                  · cases ho
                · cases ho
              · cases ho
            · cases ho
          · cases ho
        · cases ho
      | _ => simp [copyOp] at ho
    | _ => simp [copyOp] at ho
  | _ => simp [copyOp] at ho
end

end Go.Sx
