/-
  What an operation's outcome hangs on: its operands, and the objects that they name.
-/
import Derived.Test.YtagooceoocohpaaSyP
set_option linter.unusedVariables false
namespace Go.Sx

section
variable {P : Program} {ρ ρ' : Operand → SV} {V V' : Nat → Option AObj}

theorem map_congr_op {l : List Operand} (h : ∀ x ∈ l, ρ x = ρ' x) : l.map ρ = l.map ρ' := List.map_congr_left h

theorem opt_congr {x : Option Operand} (h : ∀ y ∈ x.toArray, ρ y = ρ' y) : x.map ρ = x.map ρ' := by
  cases x with
  | none => rfl
  | some y => simp [h y (by simp)]

theorem pureOp_congr (op : Op) (h : ∀ x ∈ op.operands.toList, ρ x = ρ' x) : pureOp P ρ op = pureOp P ρ' op := by
  cases op with
  | move x => simp only [pureOp]; rw [h x (by simp [Op.operands])]
  | assign x => simp only [pureOp]; rw [h x (by simp [Op.operands])]
  | pick c a b => simp only [pureOp]; rw [h c (by simp [Op.operands]), h a (by simp [Op.operands]), h b (by simp [Op.operands])]
  | binOp op t x y yt => simp only [pureOp]; rw [h x (by simp [Op.operands]), h y (by simp [Op.operands])]
  | unOp op t x => simp only [pureOp]; rw [h x (by simp [Op.operands])]
  | convert s d x => simp only [pureOp]; rw [h x (by simp [Op.operands])]
  | extract x i => simp only [pureOp]; rw [h x (by simp [Op.operands])]
  | field t x i => simp only [pureOp]; rw [h x (by simp [Op.operands])]
  | index t x i => simp only [pureOp]; rw [h x (by simp [Op.operands]), h i (by simp [Op.operands])]
  | fieldAddr t x i => simp only [pureOp]; rw [h x (by simp [Op.operands])]
  | indexAddr t x i => simp only [pureOp]; rw [h x (by simp [Op.operands]), h i (by simp [Op.operands])]
  | build t parts =>
    have e : (parts.toList.map fun p => (p.1, ρ p.2)) = parts.toList.map fun p => (p.1, ρ' p.2) :=
      List.map_congr_left fun p hp => by rw [h p.2 (by simp [Op.operands]; exact ⟨p.1, by simpa using hp⟩)]
    simp only [pureOp, e]
  | makeFunc f first caps =>
    cases f with
    | func f =>
      have e : caps.toList.map ρ = caps.toList.map ρ' := map_congr_op fun x hx => h x (by simp [Op.operands]; right; simpa using hx)
      simp only [pureOp, e]
    | _ => rfl
  | nilCheck x => simp only [pureOp]; rw [h x (by simp [Op.operands])]
  | slice t x lo hi mx =>
    have h1 := h x (by simp [Op.operands])
    have h2 : lo.map ρ = lo.map ρ' := opt_congr fun y hy => h y (by simp [Op.operands] at hy ⊢; simp [hy])
    have h3 : hi.map ρ = hi.map ρ' := opt_congr fun y hy => h y (by simp [Op.operands] at hy ⊢; simp [hy])
    simp only [pureOp, h1, h2, h3]
  | call c =>
    obtain ⟨callee, args, at_⟩ := c
    cases callee with
    | builtin b =>
      have hargs : ∀ x ∈ args.toList, ρ x = ρ' x := fun x hx => h x (by simp [Op.operands, Call.operands]; simpa using hx)
      cases b with
      | len =>
        simp only [pureOp]
        split
        · next x e _ => rw [hargs x (by rw [← Array.getElem?_toList] at e; exact List.mem_of_getElem? e)]
        · rfl
        · rfl
      | max =>
        simp only [pureOp]
        split
        · next x y e => rw [hargs x (by simp [e]), hargs y (by simp [e])]
        · rfl
      | min =>
        simp only [pureOp]
        split
        · next x y e => rw [hargs x (by simp [e]), hargs y (by simp [e])]
        · rfl
      | _ => rfl
    | _ => rfl
  | _ => rfl

theorem intsOf_congr {k : IntKind} {c : Ck} (h : ∀ i ∈ c.ids, V i = V' i) : intsOf V k c = intsOf V' k c := by
  unfold intsOf
  split <;> first | rfl | (rw [h _ (by simp [Ck.ids])])

theorem readOp_congr (op : Op) (h : ∀ x ∈ op.operands.toList, ρ x = ρ' x) (hV : ∀ x ∈ op.operands.toList, ∀ i ∈ (ρ x).ids, V i = V' i) : readOp P ρ V op = readOp P ρ' V' op := by
  have key : ∀ ρ, (∀ x ∈ op.operands.toList, ∀ i ∈ (ρ x).ids, V i = V' i) → readOp P ρ V op = readOp P ρ V' op := by
    intro ρ hV
    cases op with
    | load t a =>
      have ha := hV a (by simp [Op.operands])
      simp only [readOp]
      split
      · next i off e => rw [ha i (by rw [e]; simp [SV.ids, Ck.ids])]
      · next i off n j e => rw [ha i (by rw [e]; simp [SV.ids, Ck.ids])]
      · next i sz j fo e => rw [ha i (by rw [e]; simp [SV.ids, Ck.ids])]
      · rfl
    | indexAddr t x i =>
      have hx := hV x (by simp [Op.operands])
      simp only [readOp]
      split
      · next e o k j e1 e2 e3 => rw [hx o (by rw [e2]; simp [SV.ids, Ck.ids])]
      · rfl
      · rfl
      · rfl
    | slice t x lo hi mx =>
      have hx := hV x (by simp [Op.operands])
      simp only [readOp]
      split
      · split
        · split
          · next o k l e1 _ _ => rw [hx o (by rw [e1]; simp [SV.ids, Ck.ids])]
          · next o k l e1 _ _ => rw [hx o (by rw [e1]; simp [SV.ids, Ck.ids])]
          · next o k l k' hh e1 _ _ => rw [hx o (by rw [e1]; simp [SV.ids, Ck.ids])]
          · rfl
        · rfl
      · rfl
    | convert s d x =>
      have hx := hV x (by simp [Op.operands])
      simp only [readOp]
      split
      · next e c e1 e2 e3 => rw [intsOf_congr (fun i hi => hx i (by rw [e3]; exact hi))]
      · rfl
    | call c =>
      obtain ⟨callee, args, at_⟩ := c
      cases callee with
      | builtin b =>
        cases b with
        | len =>
          simp only [readOp]
          split
          · next x e e1 e2 =>
            have hx := hV x (by simp [Op.operands, Call.operands]; rw [← Array.getElem?_toList] at e1; exact Array.mem_toList_iff.1 (List.mem_of_getElem? e1))
            split
            · rfl
            · next i e3 => rw [hx i (by rw [e3]; simp [SV.ids, Ck.ids])]
            · rfl
            · rfl
            · rfl
          · rfl
        | _ => rfl
      | _ => rfl
    | _ => rfl
  rw [key ρ hV]
  cases op with
  | load t a => simp only [readOp]; rw [h a (by simp [Op.operands])]
  | indexAddr t x i => simp only [readOp]; rw [h x (by simp [Op.operands]), h i (by simp [Op.operands])]
  | slice t x lo hi mx =>
    have h1 := h x (by simp [Op.operands])
    have h2 : lo.map ρ = lo.map ρ' := opt_congr fun y hy => h y (by simp [Op.operands] at hy ⊢; simp [hy])
    have h3 : hi.map ρ = hi.map ρ' := opt_congr fun y hy => h y (by simp [Op.operands] at hy ⊢; simp [hy])
    simp only [readOp, h1, h2, h3]
  | convert s d x => simp only [readOp]; rw [h x (by simp [Op.operands])]
  | call c =>
    obtain ⟨callee, args, at_⟩ := c
    cases callee with
    | builtin b =>
      have hargs : ∀ x ∈ args.toList, ρ x = ρ' x := fun x hx => h x (by simp [Op.operands, Call.operands]; simpa using hx)
      cases b with
      | len =>
        simp only [readOp]
        split
        · next x ee e _ => rw [hargs x (by rw [← Array.getElem?_toList] at e; exact List.mem_of_getElem? e)]
        · rfl
      | _ => rfl
    | _ => rfl
  | _ => rfl

theorem decParts_congr {T : Ty} : ∀ (k : Nat) (l : List (Nat × Operand)), (∀ p ∈ l, ρ p.2 = ρ' p.2) → decParts T ρ k l = decParts T ρ' k l
  | _, [], _ => rfl
  | k, (i, x) :: r, h => by
    simp only [decParts]
    rw [h (i, x) (by simp), decParts_congr (k + 1) r (fun p hp => h p (by simp [hp]))]

theorem newOp_congr (op : Op) (h : ∀ x ∈ op.operands.toList, ρ x = ρ' x) : newOp P ρ V op = newOp P ρ' V' op := by
  cases op with
  | box t x => simp only [newOp]; rw [h x (by simp [Op.operands])]
  | buildSlice t len parts =>
    have e : ∀ T, decParts T ρ 0 parts.toList = decParts T ρ' 0 parts.toList := fun T =>
      decParts_congr 0 _ fun p hp => h p.2 (by simp [Op.operands]; exact ⟨p.1, by simpa using hp⟩)
    simp only [newOp, e]
  | makeSlice t l c => simp only [newOp]; rw [h l (by simp [Op.operands]), h c (by simp [Op.operands])]
  | convert s d x => simp only [newOp]; rw [h x (by simp [Op.operands])]
  | makeMap t r => cases r <;> rfl
  | _ => rfl

theorem rowOf_congr {T : Ty} {c : Ck} (h : ∀ i ∈ c.ids, V i = V' i) : rowOf V T c = rowOf V' T c := by
  unfold rowOf
  split <;> first | rfl | (rw [h _ (by simp [Ck.ids])])

theorem decDT_congr {d : DT} {cs : List Ck} (h : ∀ i ∈ Cks.ids cs, V i = V' i) : decDT V d cs = decDT V' d cs ∧ ∀ b x r, decDT V d cs = some (b, x, r) → ∀ i ∈ Cks.ids r, i ∈ Cks.ids cs := by
  cases d with
  | ty T =>
    refine ⟨rfl, fun b x r hd i hi => ?_⟩
    simp only [decDT] at hd
    split at hd
    · next y q hy =>
      simp at hd; obtain ⟨_, _, rfl⟩ := hd
      rw [Ty.dec_enc hy, Cks.ids_append]; simp [hi]
    · cases hd
  | list T =>
    cases cs with
    | nil => exact ⟨rfl, fun b x r hd => by cases hd⟩
    | cons c cs =>
      have hs : sliceOf V T c = sliceOf V' T c := by
        have := rowOf_congr (T := T) (c := c) (fun i hi => h i (by simp [Cks.ids, hi]))
        cases c <;> first | rfl | exact this
      refine ⟨by simp only [decDT]; rw [hs], fun b x r hd i hi => ?_⟩
      simp only [decDT] at hd
      split at hd
      · simp at hd; obtain ⟨_, _, rfl⟩ := hd; simp [Cks.ids, hi]
      · cases hd

theorem decDTs_congr : ∀ (ds : List DT) (cs : List Ck), (∀ i ∈ Cks.ids cs, V i = V' i) → decDTs V ds cs = decDTs V' ds cs
  | [], cs, h => rfl
  | [d], cs, h => by simp only [decDTs]; rw [(decDT_congr h).1]
  | d :: e :: r, cs, h => by
    obtain ⟨h1, h2⟩ := decDT_congr (d := d) h
    simp only [decDTs]
    rw [← h1]
    cases hd : decDT V d cs with
    | none => rfl
    | some t =>
      obtain ⟨b, x, rest⟩ := t
      simp only
      rw [decDTs_congr (e :: r) rest (fun i hi => h i (h2 b x rest hd i hi))]

theorem decPT_congr {p : PT} {v : SV} (h : ∀ i ∈ v.ids, V i = V' i) : decPT V p v = decPT V' p v := by
  unfold decPT
  split
  · next cs hcs =>
    refine decDTs_congr _ _ fun i hi => h i ?_
    cases v with
    | agg ds => unfold SV.asPT at hcs; simp only at hcs; split at hcs <;> simp at hcs; subst hcs; exact hi
    | sc c => unfold SV.asPT at hcs; simp only at hcs; split at hcs <;> simp at hcs; subst hcs; simpa [Cks.ids, SV.ids] using hi
    | none => cases hcs
    | tup _ => cases hcs
  · rfl

theorem decPTs_congr : ∀ (ps : List PT) (vs : List SV), (∀ v ∈ vs, ∀ i ∈ v.ids, V i = V' i) → decPTs V ps vs = decPTs V' ps vs
  | [], vs, h => by cases vs <;> rfl
  | [p], vs, h => by
    cases vs with
    | nil => rfl
    | cons v vs =>
      cases vs with
      | nil => exact decPT_congr (h v (by simp))
      | cons _ _ => rfl
  | p :: q :: r, vs, h => by
    cases vs with
    | nil => rfl
    | cons v vs =>
      show both PDen.mk2 (decPT V p v) (decPTs V (q :: r) vs) = both PDen.mk2 (decPT V' p v) (decPTs V' (q :: r) vs)
      rw [decPT_congr (h v (by simp)), decPTs_congr (q :: r) vs (fun u hu => h u (by simp [hu]))]

theorem storeOp_congr (op : Op) (h : ∀ x ∈ op.operands.toList, ρ x = ρ' x) (hV : ∀ i ∈ wrIds ρ op, V i = V' i) : storeOp P ρ V op = storeOp P ρ' V' op := by
  cases op with
  | store t p x =>
    have hp : ∀ i ∈ (ρ p).ids, V i = V' i := hV
    simp only [storeOp]
    rw [← h p (by simp [Op.operands]), ← h x (by simp [Op.operands])]
    split
    · split
      · split
        · next e => rw [hp _ (by rw [e]; simp [SV.ids, Ck.ids])]
        · next e => rw [hp _ (by rw [e]; simp [SV.ids, Ck.ids])]
        · next e => rw [hp _ (by rw [e]; simp [SV.ids, Ck.ids])]
        · rfl
      · rfl
    · rfl
  | _ => rfl

theorem storeOp_id {op : Op} {b : Bool} {i : Nat} {ob : AObj} (h : storeOp P ρ V op = some (b, i, ob)) : i ∈ wrIds ρ op := by
  cases op with
  | store t p x =>
    simp only [storeOp] at h
    show i ∈ (ρ p).ids
    split at h
    · split at h
      · split at h
        · next e =>
          rw [e]
          split at h
          · split at h
            · cases h; simp [SV.ids, Ck.ids]
            · cases h
          · cases h
        · next e =>
          rw [e]
          split at h
          · split at h
            · split at h
              · split at h
                · cases h; simp [SV.ids, Ck.ids]
                · cases h
              · cases h
            · cases h
          · cases h
        · next e =>
          rw [e]
          split at h
          · split at h
            · split at h
              · split at h
                · cases h; simp [SV.ids, Ck.ids]
                · cases h
              · cases h
            · cases h
          · cases h
        · cases h
      · cases h
    · cases h
  | _ => cases h

theorem baseOf_congr {T : Ty} {c : Ck} (h : ∀ i ∈ c.ids, V i = V' i) : baseOf V T c = baseOf V' T c := by
  unfold baseOf
  split <;> first | rfl | (rw [h _ (by simp [Ck.ids])])

theorem mem_ops1 {args : Array Operand} {b : Builtin} {at_ : Array TypeId} {x : Operand} (hx : x ∈ args.toList) : x ∈ (Op.call { callee := .builtin b, args, argTypes := at_ }).operands.toList := by
  simp [Op.operands, Call.operands]; simpa using hx

theorem appendOp_congr {o : Oper} (h : ∀ x ∈ o.op.operands.toList, ρ x = ρ' x) (hV : ∀ i ∈ opIds ρ o, V i = V' i) : appendOp P ρ V o.op = appendOp P ρ' V' o.op := by
  unfold opIds at hV
  generalize o.op = op at h hV
  cases op with
  | call c =>
    obtain ⟨callee, args, at_⟩ := c
    cases callee with
    | builtin b =>
      cases b with
      | append =>
        have hargs : ∀ x ∈ args.toList, ρ x = ρ' x := fun x hx => h x (mem_ops1 hx)
        have hVa : ∀ x ∈ args.toList, ∀ i ∈ (ρ x).ids, V i = V' i := fun x hx i hi => hV i (List.mem_flatMap.2 ⟨x, mem_ops1 hx, hi⟩)
        simp only [appendOp]
        split
        · next x y tx ty e _ =>
          have hx := hVa x (by simp [e])
          have hy := hVa y (by simp [e])
          rw [← hargs x (by simp [e]), ← hargs y (by simp [e])]
          split
          · split
            · rfl
            · split
              · next e1 e2 => rw [baseOf_congr (fun i hi => hx i (by rw [e1]; exact hi)), rowOf_congr (fun i hi => hy i (by rw [e2]; exact hi))]
              · rfl
          · rfl
        · rfl
      | _ => rfl
    | _ => rfl
  | _ => rfl

theorem appendOp_id {op : Op} {b : Bool} {i : Nat} {ob : AObj} (h : appendOp P ρ V op = some (b, some i, ob)) : i ∈ wrIds ρ op := by
  cases op with
  | call c =>
    obtain ⟨callee, args, at_⟩ := c
    cases callee with
    | builtin bb =>
      cases bb with
      | append =>
        simp only [appendOp] at h
        split at h
        · next x y tx ty e _ =>
          split at h
          · split at h
            · cases h
            · split at h
              · next e1 e2 =>
                split at h
                · split at h
                  · next hb _ =>
                    cases h
                    simp only [wrIds, e]
                    rw [e1]
                    unfold baseOf at hb
                    split at hb
                    · cases hb
                    · split at hb
                      · split at hb
                        · cases hb; simp [SV.ids, Ck.ids]
                        · cases hb
                      · cases hb
                    · split at hb
                      · split at hb
                        · split at hb
                          · cases hb; simp [SV.ids, Ck.ids]
                          · cases hb
                        · cases hb
                      · cases hb
                    · cases hb
                  · cases h
                · cases h
              · cases h
          · cases h
        · cases h
      | _ => cases h
    | _ => cases h
  | _ => cases h

theorem appendOp_ids {op : Op} {b : Bool} {i : Option Nat} {ob : AObj} (h : appendOp P ρ V op = some (b, i, ob)) : ob.ids = [] := by
  cases op with
  | call c =>
    obtain ⟨callee, args, at_⟩ := c
    cases callee with
    | builtin bb =>
      cases bb with
      | append =>
        simp only [appendOp] at h
        split at h
        · split at h
          · split at h
            · cases h
            · split at h
              · split at h
                · split at h
                  · cases h; rfl
                  · cases h
                · cases h
              · cases h
          · cases h
        · cases h
      | _ => cases h
    | _ => cases h
  | _ => cases h

theorem copyOp_congr {o : Oper} (h : ∀ x ∈ o.op.operands.toList, ρ x = ρ' x) (hV : ∀ i ∈ opIds ρ o, V i = V' i) : copyOp P ρ V o.op = copyOp P ρ' V' o.op := by
  unfold opIds at hV
  generalize o.op = op at h hV
  cases op with
  | call c =>
    obtain ⟨callee, args, at_⟩ := c
    cases callee with
    | builtin b =>
      cases b with
      | copy =>
        have hargs : ∀ x ∈ args.toList, ρ x = ρ' x := fun x hx => h x (mem_ops1 hx)
        have hVa : ∀ x ∈ args.toList, ∀ i ∈ (ρ x).ids, V i = V' i := fun x hx i hi => hV i (List.mem_flatMap.2 ⟨x, mem_ops1 hx, hi⟩)
        simp only [copyOp]
        split
        · next x y tx tr e _ =>
          have hx := hVa x (by simp [e])
          have hy := hVa y (by simp [e])
          rw [← hargs x (by simp [e]), ← hargs y (by simp [e])]
          split
          · split
            · next e1 e2 =>
              have e3 : ∀ T, rowOf V T _ = rowOf V' T _ := fun T => rowOf_congr (T := T) (fun i hi => hy i (by rw [e2]; exact hi))
              rw [hx _ (by rw [e1]; simp [SV.ids, Ck.ids])]
              simp only [e3]
            · next e1 e2 =>
              have e3 : ∀ T, rowOf V T _ = rowOf V' T _ := fun T => rowOf_congr (T := T) (fun i hi => hy i (by rw [e2]; exact hi))
              rw [hx _ (by rw [e1]; simp [SV.ids, Ck.ids])]
              simp only [e3]
            · rfl
          · rfl
        · rfl
      | _ => rfl
    | _ => rfl
  | _ => rfl

theorem copyOp_id {op : Op} {b : Bool} {r : Int} {i : Nat} {ob : AObj} (h : copyOp P ρ V op = some (b, r, i, ob)) : i ∈ wrIds ρ op := by
  cases op with
  | call c =>
    obtain ⟨callee, args, at_⟩ := c
    cases callee with
    | builtin bb =>
      cases bb with
      | copy =>
        simp only [copyOp] at h
        split at h
        · next x y tx tr e _ =>
          simp only [wrIds, e]
          split at h
          · split at h
            · next e1 e2 =>
              rw [e1]
              split at h
              · split at h
                · split at h
                  · split at h
                    · split at h
                      · cases h; simp [SV.ids, Ck.ids]
                      · cases h
                    · cases h
                  · cases h
                · cases h
              · cases h
            · next e1 e2 =>
              rw [e1]
              split at h
              · split at h
                · split at h
                  · cases h; simp [SV.ids, Ck.ids]
                  · cases h
                · cases h
              · cases h
            · cases h
          · cases h
        · cases h
      | _ => cases h
    | _ => cases h
  | _ => cases h
end

end Go.Sx
