/-
  Arguments read off abstract states hold in real memory; results are taken into abstract states.
-/
import Derived.Test.YtagooceoocohpaaSyM
set_option linter.unusedVariables false
namespace Go.Sx

section
variable {P : Program} {φ : Nat → Place} {m : Nat → Option AObj} {N : Nat} {F : Nat → Prop} {w : World}

theorem sliceOf_at {T : Ty} {c : Ck} {xs : List T.den} {val : Value} (hm : ∀ i o, m i = some o → ObjOk φ m N F w i o) (h : sliceOf m T c = some (true, xs)) (hc : (SV.sc c).R φ m val) :
    ∃ a cap, val = .slice a xs.length cap ∧ ListAt w T xs a cap := by
  have hrow : rowOf m T c = some (true, xs) ∧ ∀ s, c ≠ .str s := by
    cases c <;> first | exact ⟨h, fun s e => by cases e⟩ | cases h
  clear h
  obtain ⟨h, hns⟩ := hrow
  unfold rowOf at h
  split at h
  · simp at h; subst h
    simp only [SV.R, Ck.R, List.cons.injEq, and_true] at hc
    exact ⟨none, 0, hc, Nat.le_refl _, .inl rfl⟩
  · next i =>
    split at h
    · next T' ys own hV =>
      split at h
      · next zs hz =>
        obtain ⟨rfl, hh⟩ := castL_spec hz
        have := eq_of_heq hh; subst this
        obtain rfl : ys = xs := congrArg Prod.snd (Option.some.inj h)
        refine ⟨_, _, R_sl hV hc, ?_⟩
        rcases hm i _ hV with ⟨h1, h2⟩ | ⟨b, o, arr, E, lo, hi, pre, post, q1, q2, q3, q4, q5, q6, q7⟩
        · subst h1; rw [h2]; exact ⟨Nat.le_refl _, .inl rfl⟩
        · exact ⟨q5, .inr ⟨b, o, arr, E, _, pre, post, q1, q2, q3, q4, q6⟩⟩
      · cases h
    · cases h
  · next i sz lo n =>
    split at h
    · next T' ys own hV =>
      split at h
      · next hsz =>
        subst hsz
        split at h
        · next zs hz =>
          obtain ⟨rfl, hh⟩ := castL_spec hz
          have := eq_of_heq hh; subst this
          obtain ⟨hle, hxs⟩ := Prod.mk.inj (Option.some.inj h)
          have hle : lo.toNat + n.toNat ≤ ys.length := of_decide_eq_true hle
          obtain rfl : winOf ys lo n = xs := hxs
          obtain ⟨a, c, ea, hc1, hlo, hn0, hcap, hd⟩ := hc
          simp at ea
          have hlen := winOf_length hle
          refine ⟨a, c, by rw [hlen]; exact ea, by omega, ?_⟩
          rcases Nat.eq_zero_or_pos c with hc0 | hc0
          · exact .inl hc0
          · rcases hd with hd | ⟨b, of, hb, rfl⟩
            · omega
            · rcases hm i _ hV with ⟨h1, h2⟩ | ⟨b', o', arr, E, l, hi, pre, post, q1, q2, q3, q4, q5, q6, q7⟩
              · omega
              · rw [hb] at q1; simp at q1; obtain ⟨rfl, rfl⟩ := q1
                have hmul : lo.toNat * T'.size + c * T'.size ≤ (φ i).cap * T'.size := by rw [← Nat.add_mul]; exact Nat.mul_le_mul_right _ (by omega)
                have hsplit : ys.flatMap T'.cells = (ys.take lo.toNat).flatMap T'.cells ++ (winOf ys lo n).flatMap T'.cells ++ ((ys.drop lo.toNat).drop n.toNat).flatMap T'.cells := by
                  unfold winOf
                  rw [← List.flatMap_append, ← List.flatMap_append, List.append_assoc, List.take_append_drop, List.take_append_drop]
                refine .inr ⟨b, of + lo.toNat * T'.size, arr, E, _, pre ++ (ys.take lo.toNat).flatMap T'.cells, ((ys.drop lo.toNat).drop n.toNat).flatMap T'.cells ++ post, rfl, q2, ?_, ?_, by omega⟩
                · rw [q3, hsplit]; simp
                · rw [List.length_append, q4, flatMap_length, List.length_take, Nat.min_eq_left (by omega)]
        · cases h
      · cases h
    · cases h
  · next i off Nn lo n =>
    split at h
    · next cs hV =>
      split at h
      · next k' N' f hmid =>
        split at h
        · next hk =>
          subst hk
          split at h
          · next zs hz =>
            obtain ⟨rfl, hh⟩ := castL_spec hz
            have := eq_of_heq hh; subst this
            obtain rfl : (List.range n.toNat).map (fun j => f (lo.toNat + j)) = xs := congrArg Prod.snd (Option.some.inj h)
            obtain ⟨a, c, ea, hc1, hlo, hn0, hN, hd⟩ := hc
            simp at ea
            have hlen : ((List.range n.toNat).map fun j => f (lo.toNat + j)).length = n.toNat := by simp
            refine ⟨a, c, ea.trans (congrArg (fun q => Value.slice a q c) hlen.symm), Nat.le_trans (Nat.le_of_eq hlen) hc1, ?_⟩
            rcases hd with hd | ⟨hcN, b, hb, rfl⟩
            · exact .inl hd
            · obtain ⟨b', arr, E, l, h', q1, q2, q3, q4, q5⟩ := hm i _ hV
              rw [hb] at q1; simp at q1; subst q1
              obtain ⟨g1, g2, g3⟩ := midCks_spec hmid q3
              have e2 := arr_single (v := .nilFunc) rfl g1
              rw [Array.length_toList] at g2
              refine .inr ⟨b, off + lo.toNat, arr, E, (l, h'), arr.toList.take (off + lo.toNat), arr.toList.drop (off + lo.toNat + n.toNat), rfl, q2, ?_, by simp; omega, by rw [show (Ty.int k').size = 1 from rfl]; omega⟩
              have e3 : (@List.flatMap (Ty.int k').den Value (Ty.int k').cells ((List.range n.toNat).map fun j => f (lo.toNat + j))) = (arr.toList.drop (off + lo.toNat)).take n.toNat := by
                rw [show (@List.flatMap (Ty.int k').den Value (Ty.int k').cells ((List.range n.toNat).map fun j => f (lo.toNat + j))) = ((List.range n.toNat).map fun j => f (lo.toNat + j)).map (Value.int k') from flatMap_int _]
                apply List.ext_getElem?
                intro j
                simp only [List.getElem?_take, List.getElem?_drop, List.map_map, List.getElem?_map]
                by_cases hj : j < n.toNat
                · rw [if_pos hj]
                  have := congrArg (fun l => l[lo.toNat + j]?) e2
                  simp only [List.getElem?_take, List.getElem?_drop, List.getElem?_map] at this
                  rw [if_pos (by omega)] at this
                  rw [show off + lo.toNat + j = off + (lo.toNat + j) by omega, this, List.getElem?_range hj, List.getElem?_range (by omega)]
                  rfl
                · rw [if_neg hj]; simp [hj]
              have e4 : arr.toList = arr.toList.take (off + lo.toNat) ++ (arr.toList.drop (off + lo.toNat)).take n.toNat ++ arr.toList.drop (off + lo.toNat + n.toNat) := by
                generalize off + lo.toNat = p
                rw [← List.drop_drop, List.append_assoc, List.take_append_drop, List.take_append_drop]
              exact e4.trans (congrArg (fun q => arr.toList.take (off + lo.toNat) ++ q ++ arr.toList.drop (off + lo.toNat + n.toNat)) e3.symm)
          · cases h
        · cases h
      · cases h
    · cases h
  · exact absurd rfl (hns _)
  · cases h

theorem decDT_deep {d : DT} {cs r : List Ck} {x : d.den} {l : List Value} (hm : ∀ i o, m i = some o → ObjOk φ m N F w i o) (h : decDT m d cs = some (true, x, r)) (hl : FlatR φ m cs l) :
    ∃ l1 l2, l = l1 ++ l2 ∧ DeepD w d x l1 ∧ FlatR φ m r l2 := by
  cases d with
  | ty T =>
    simp only [decDT] at h
    split at h
    · next y q hy =>
      simp at h; obtain ⟨rfl, rfl⟩ := h
      rw [Ty.dec_enc hy] at hl
      obtain ⟨l1, l2, rfl, h1, h2⟩ := FlatR.of_append hl
      exact ⟨l1, l2, rfl, FlatR.of_enc T _ _ h1, h2⟩
    · cases h
  | list T =>
    cases cs with
    | nil => cases h
    | cons c cs =>
      simp only [decDT] at h
      split at h
      · next b xs hs =>
        simp at h; obtain ⟨rfl, rfl, rfl⟩ := h
        obtain ⟨l1, l2, rfl, h1, h2⟩ := hl
        have hlen : l1.length = 1 := by
          rw [Ck.R_length h1]
          cases c <;> first | rfl | cases hs
        obtain ⟨v, rfl⟩ := List.length_eq_one_iff.1 hlen
        obtain ⟨a, cap, hv, hat⟩ := sliceOf_at hm hs h1
        exact ⟨_, l2, rfl, ⟨a, cap, by rw [hv], hat⟩, h2⟩
      · cases h

theorem decDTs_deep (hm : ∀ i o, m i = some o → ObjOk φ m N F w i o) : ∀ (ds : List DT) (cs : List Ck) (x : Dens ds) (l : List Value), decDTs m ds cs = some (true, x) → FlatR φ m cs l → DeepDs w ds x l
  | [], cs, x, l, h, hl => by
    cases cs with
    | nil => exact hl
    | cons c cs => cases h
  | [d], cs, x, l, h, hl => by
    simp only [decDTs] at h
    split at h
    · next b y hd =>
      obtain ⟨hb, hx⟩ := Prod.mk.inj (Option.some.inj h)
      subst hx
      rw [hb] at hd
      obtain ⟨l1, l2, rfl, h1, h2⟩ := decDT_deep hm hd hl
      simp only [FlatR] at h2; subst h2
      simpa [DeepDs] using h1
    · cases h
  | d :: e :: r, cs, x, l, h, hl => by
    simp only [decDTs] at h
    split at h
    · next b y rest hd =>
      split at h
      · next c z hr =>
        obtain ⟨hb, hx⟩ := Prod.mk.inj (Option.some.inj h)
        obtain ⟨hb, hc⟩ := bool_and_true hb
        subst hx
        rw [hb] at hd
        rw [hc] at hr
        obtain ⟨l1, l2, rfl, h1, h2⟩ := decDT_deep hm hd hl
        exact ⟨l1, l2, rfl, h1, decDTs_deep hm (e :: r) rest z l2 hr h2⟩
      · cases h
    · cases h

theorem decPT_deep {p : PT} {v : SV} {x : Dens p.ts} {val : Value} (hm : ∀ i o, m i = some o → ObjOk φ m N F w i o) (h : decPT m p v = some (true, x)) (hv : v.R φ m val) : DeepP w p x val := by
  unfold decPT at h
  unfold DeepP
  split at h
  · next cs hcs =>
    cases v with
    | agg ds =>
      unfold SV.asPT at hcs
      simp only at hcs
      split at hcs
      · next ha =>
        simp at hcs; subst hcs
        rw [if_pos ha]
        obtain ⟨l, e, hl⟩ := hv
        exact ⟨l, e, decDTs_deep hm _ _ _ _ h hl⟩
      · cases hcs
    | sc c =>
      unfold SV.asPT at hcs
      simp only at hcs
      split at hcs
      · cases hcs
      · next ha =>
        simp at hcs; subst hcs
        rw [if_neg ha]
        exact decDTs_deep hm _ _ _ _ h (FlatR.of_single hv)
    | none => cases hcs
    | tup _ => cases hcs
  · cases h

theorem ArgsIn.one {p : PT} {x : PDen [p]} {v : Value} (h : DeepP w p x v) : ArgsIn w [p] x [v] := ⟨v, rfl, h⟩
theorem ArgsIn.more {p q : PT} {r : List PT} {y : Dens p.ts} {z : PDen (q :: r)} {v : Value} {vs : List Value} (h : DeepP w p y v) (h' : ArgsIn w (q :: r) z vs) : ArgsIn w (p :: q :: r) (y, z) (v :: vs) := ⟨v, vs, rfl, h, h'⟩

theorem decPTs_deep (hm : ∀ i o, m i = some o → ObjOk φ m N F w i o) : ∀ (ps : List PT) (vs : List SV) (x : PDen ps) (vals : List Value), decPTs m ps vs = some (true, x) → All2 (fun s v => SV.R φ m s v) vs vals → ArgsIn w ps x vals
  | [], vs, x, vals, h, hv => by
    cases vs with
    | nil => cases vals with
      | nil => rfl
      | cons => exact hv.elim
    | cons c cs => cases h
  | [p], vs, x, vals, h, hv => by
    cases vs with
    | nil => cases h
    | cons v vs =>
      cases vs with
      | cons _ _ => cases h
      | nil =>
        cases vals with
        | nil => exact hv.elim
        | cons y ys =>
          cases ys with
          | cons _ _ => exact hv.2.elim
          | nil => exact ArgsIn.one (decPT_deep hm h hv.1)
  | p :: q :: r, vs, x, vals, h, hv => by
    cases vs with
    | nil => cases h
    | cons v vs' =>
      have h2 : both PDen.mk2 (decPT m p v) (decPTs m (q :: r) vs') = some (true, x) := h
      obtain ⟨b, y, c, z, hp, hr, hb, rfl⟩ := both_some h2
      obtain ⟨hb, hc⟩ := bool_and_true hb
      rw [hb] at hp
      rw [hc] at hr
      cases vals with
      | nil => exact hv.elim
      | cons u us => exact ArgsIn.more (decPT_deep hm hp hv.1) (decPTs_deep hm (q :: r) vs' z us hr hv.2)
end

end Go.Sx
