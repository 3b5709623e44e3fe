/-
  FieldTells, plain.
-/
import Derived.Test.YtagooceoocohpaaSyLh
set_option maxRecDepth 100000
set_option linter.unusedVariables false
namespace Go.Sx
noncomputable def F_billetlaw01_FieldTells :=
fun (g_billetlaw01_wakes : Unit → Option Bool) (g_billetref01_Inv g_billetref01_Key g_billetref01_Of : (Nat → Int) → Option (Nat → Int))
    (g_billetref01_Small : Int → Option (Nat → Int)) (g_billetref01_Sub : (Nat → Int) × (Nat → Int) → Option (Nat → Int))
    (g_field_Elem_Key g_field_Inv : (Nat → Int) → Option (Nat → Int)) (g_field_Num : Int → Option (Nat → Int)) (g_field_Of : (Nat → Int) → Option (Nat → Int))
    (g_field_Pick : Int × (Nat → Int) × (Nat → Int) → Option (Nat → Int)) (g_field_Same : (Nat → Int) × (Nat → Int) → Option Bool)
    (g_field_Sub : (Nat → Int) × (Nat → Int) → Option (Nat → Int)) (a : (Nat → Int) × (Nat → Int) × Int × Int) =>
  letK (fun (x : Nat) => (0 : Int)) fun (v : Nat → Int) =>
    letK (fun (x : Nat) => (0 : Int)) fun (v : Nat → Int) =>
      bindK (g_field_Of a.fst) fun (y : Nat → Int) =>
        bindK (g_field_Of a.snd.fst) fun (y_1 : Nat → Int) =>
          letK (fun (x : Nat) => (0 : Int)) fun (v : Nat → Int) =>
            letK (fun (x : Nat) => (0 : Int)) fun (v : Nat → Int) =>
              bindK (g_billetref01_Of a.fst) fun (y_2 : Nat → Int) =>
                bindK (g_billetref01_Of a.snd.fst) fun (y_3 : Nat → Int) =>
                  letK (fun (x : Nat) => (0 : Int)) fun (v : Nat → Int) =>
                    letK (fun (x : Nat) => (0 : Int)) fun (v : Nat → Int) =>
                      letK (fun (x : Nat) => (0 : Int)) fun (v : Nat → Int) =>
                        letK (a.snd.snd.snd == (1 : Int)) fun (v : Bool) =>
                          sel v
                            (bindK (g_field_Elem_Key y) fun (y_4 : Nat → Int) =>
                              bindK (g_billetref01_Key y_2) fun (y_5 : Nat → Int) =>
                                letK (eqA (32 : Nat) y_4 y_5) fun (v : Bool) =>
                                  sel v
                                    (bindK (g_field_Num a.snd.snd.fst) fun (y_6 : Nat → Int) =>
                                      bindK (g_field_Elem_Key y_6) fun (y_7 : Nat → Int) =>
                                        bindK (g_billetref01_Small a.snd.snd.fst) fun (y_8 : Nat → Int) =>
                                          bindK (g_billetref01_Key y_8) fun (y_9 : Nat → Int) =>
                                            letK (eqA (32 : Nat) y_7 y_9) fun (v : Bool) =>
                                              sel v
                                                (bindK (g_field_Sub (y, y_1)) fun (y_10 : Nat → Int) =>
                                                  bindK (g_field_Elem_Key y_10) fun (y_11 : Nat → Int) =>
                                                    bindK (g_billetref01_Sub (y_2, y_3)) fun (y_12 : Nat → Int) =>
                                                      bindK (g_billetref01_Key y_12) fun (y_13 : Nat → Int) =>
                                                        letK (eqA (32 : Nat) y_11 y_13) fun (v : Bool) =>
                                                          sel v
                                                            (bindK (g_field_Inv y) fun (y_14 : Nat → Int) =>
                                                              bindK (g_field_Elem_Key y_14) fun (y_15 : Nat → Int) =>
                                                                bindK (g_billetref01_Inv y_2) fun (y_16 : Nat → Int) =>
                                                                  bindK (g_billetref01_Key y_16) fun (y_17 : Nat → Int) =>
                                                                    letK (eqA (32 : Nat) y_15 y_17) fun (v : Bool) =>
                                                                      sel v
                                                                        (bindK (g_field_Pick (a.snd.snd.snd, y, y_1)) fun (y_18 : Nat → Int) =>
                                                                          bindK (g_field_Elem_Key y_18) fun (y_19 : Nat → Int) =>
                                                                            bindK (g_billetref01_Key y_3) fun (y_20 : Nat → Int) =>
                                                                              letK (eqA (32 : Nat) y_19 y_20) fun (v : Bool) =>
                                                                                sel v
                                                                                  (bindK (g_field_Same (y, y_1)) fun (y : Bool) =>
                                                                                    letK (eqA (16 : Nat) y_2 y_3) fun (v : Bool) =>
                                                                                      letK (y == v) fun (v : Bool) =>
                                                                                        sel v (bindK (g_billetlaw01_wakes ()) fun (y : Bool) => some y)
                                                                                          (some false))
                                                                                  (some false))
                                                                        (some false))
                                                            (some false))
                                                (some false))
                                    (some false))
                            (bindK (g_field_Elem_Key y) fun (y_4 : Nat → Int) =>
                              bindK (g_billetref01_Key y_2) fun (y_5 : Nat → Int) =>
                                letK (eqA (32 : Nat) y_4 y_5) fun (v : Bool) =>
                                  sel v
                                    (bindK (g_field_Num a.snd.snd.fst) fun (y_6 : Nat → Int) =>
                                      bindK (g_field_Elem_Key y_6) fun (y_7 : Nat → Int) =>
                                        bindK (g_billetref01_Small a.snd.snd.fst) fun (y_8 : Nat → Int) =>
                                          bindK (g_billetref01_Key y_8) fun (y_9 : Nat → Int) =>
                                            letK (eqA (32 : Nat) y_7 y_9) fun (v : Bool) =>
                                              sel v
                                                (bindK (g_field_Sub (y, y_1)) fun (y_10 : Nat → Int) =>
                                                  bindK (g_field_Elem_Key y_10) fun (y_11 : Nat → Int) =>
                                                    bindK (g_billetref01_Sub (y_2, y_3)) fun (y_12 : Nat → Int) =>
                                                      bindK (g_billetref01_Key y_12) fun (y_13 : Nat → Int) =>
                                                        letK (eqA (32 : Nat) y_11 y_13) fun (v : Bool) =>
                                                          sel v
                                                            (bindK (g_field_Inv y) fun (y_14 : Nat → Int) =>
                                                              bindK (g_field_Elem_Key y_14) fun (y_15 : Nat → Int) =>
                                                                bindK (g_billetref01_Inv y_2) fun (y_16 : Nat → Int) =>
                                                                  bindK (g_billetref01_Key y_16) fun (y_17 : Nat → Int) =>
                                                                    letK (eqA (32 : Nat) y_15 y_17) fun (v : Bool) =>
                                                                      sel v
                                                                        (bindK (g_field_Pick (a.snd.snd.snd, y, y_1)) fun (y_18 : Nat → Int) =>
                                                                          bindK (g_field_Elem_Key y_18) fun (y_19 : Nat → Int) =>
                                                                            bindK (g_billetref01_Key y_2) fun (y_20 : Nat → Int) =>
                                                                              letK (eqA (32 : Nat) y_19 y_20) fun (v : Bool) =>
                                                                                sel v
                                                                                  (bindK (g_field_Same (y, y_1)) fun (y : Bool) =>
                                                                                    letK (eqA (16 : Nat) y_2 y_3) fun (v : Bool) =>
                                                                                      letK (y == v) fun (v : Bool) =>
                                                                                        sel v (bindK (g_billetlaw01_wakes ()) fun (y : Bool) => some y)
                                                                                          (some false))
                                                                                  (some false))
                                                                        (some false))
                                                            (some false))
                                                (some false))
                                    (some false))
noncomputable abbrev FF_billetref01_Sub := F_billetref01_Sub FF_billetref01_Add FF_billetref01_prime
noncomputable abbrev FF_billetref01_Inv := F_billetref01_Inv FF_billetref01_Mul
noncomputable abbrev FF_billetlaw01_FieldTells := F_billetlaw01_FieldTells FF_billetlaw01_wakes FF_billetref01_Inv FF_billetref01_Key FF_billetref01_Of FF_billetref01_Small FF_billetref01_Sub FF_field_Elem_Key FF_field_Inv FF_field_Num FF_field_Of FF_field_Pick FF_field_Same FF_field_Sub

theorem same_keys {x y : Nat → Int} {n : Int} (hx : KeyOf x n) (hy : KeyOf y n) : eqA 32 x y = true := eqA_iff.2 (KeyOf.ext hx hy)

theorem ref_eq {x y : Nat → Int} {m n : Int} (hx : FR x m) (hy : FR y n) : eqA 16 x y = decide (m = n) := by
  rw [Bool.eq_iff_iff, eqA_iff, decide_eq_true_iff]
  constructor
  · intro h
    rw [← hx.val, ← hy.val]
    exact val_congr h
  · intro h; exact val_ext (by decide) hx.dig hy.dig (by rw [hx.val, hy.val, h])

theorem field_tells {a : (Nat → Int) × (Nat → Int) × Int × Int} (h0 : IsBytes 32 a.1) (h1 : IsBytes 32 a.2.1) (h2 : 0 ≤ a.2.2.1) (h3 : a.2.2.1 < 18446744073709551616) : FF_billetlaw01_FieldTells a = some true := by
  refine Ret.eq ?_
  unfold FF_billetlaw01_FieldTells F_billetlaw01_FieldTells
  refine ret_let (ret_let (ret_bind (field_Of_ret h0) ?_))
  intro x hx
  refine ret_bind (field_Of_ret h1) ?_
  intro y hy
  refine ret_let (ret_let (ret_bind (ref_Of_ret h0) ?_))
  intro u hu
  refine ret_bind (ref_Of_ret h1) ?_
  intro v hv
  generalize val 256 32 a.1 % 57896044618658097711785492504343953926634992332820282019728792003956564819968 % p25519 = m at hx hu
  generalize val 256 32 a.2.1 % 57896044618658097711785492504343953926634992332820282019728792003956564819968 % p25519 = n at hy hv
  refine ret_let (ret_let (ret_let (ret_let ?_)))
  -- the choice, in both branches alike
  have rest : ∀ {q z : Nat → Int} {l : Int}, FR z l → (a.2.2.2 = 1 → l = n) → (a.2.2.2 ≠ 1 → l = m) →
      Ret (bindK (FF_field_Pick (a.2.2.2, x, y)) fun (y_18 : Nat → Int) =>
        bindK (FF_field_Elem_Key y_18) fun (y_19 : Nat → Int) =>
        bindK (FF_billetref01_Key z) fun (y_20 : Nat → Int) =>
        letK (eqA (32 : Nat) y_19 y_20) fun (w : Bool) =>
        sel w
          (bindK (FF_field_Same (x, y)) fun (y : Bool) =>
            letK (eqA (16 : Nat) u v) fun (v : Bool) =>
            letK (y == v) fun (v : Bool) =>
            sel v (bindK (FF_billetlaw01_wakes ()) fun (y : Bool) => some y)
              (some false))
          (some false)) fun r => r = true := by
    intro q z l hz e1 e2
    refine ret_bindE (field_Pick_ret a.2.2.2 x y) ?_
    have hp : FE (if a.2.2.2 = 1 then y else x) l := by
      split
      · next h => rw [e1 h]; exact hy
      · next h => rw [e2 h]; exact hx
    refine ret_bind (field_Key_ret hp) ?_
    intro k hk
    refine ret_bind (ref_Key_ret hz) ?_
    intro k' hk'
    refine ret_let (ret_selT (same_keys hk hk') ?_)
    refine ret_bindE (Same2 hx hy) (ret_let (ret_let (ret_selT ?_ ?_)))
    · rw [ref_eq hu hv]; simp
    · exact ret_bindE wakes01 (ret_some rfl)
  have all : ∀ {z : Nat → Int} {l : Int}, FR z l → (a.2.2.2 = 1 → l = n) → (a.2.2.2 ≠ 1 → l = m) →
      Ret (bindK (FF_field_Elem_Key x) fun (y_4 : Nat → Int) =>
        bindK (FF_billetref01_Key u) fun (y_5 : Nat → Int) =>
        letK (eqA (32 : Nat) y_4 y_5) fun (w : Bool) =>
        sel w
          (bindK (FF_field_Num a.2.2.1) fun (y_6 : Nat → Int) =>
            bindK (FF_field_Elem_Key y_6) fun (y_7 : Nat → Int) =>
            bindK (FF_billetref01_Small a.2.2.1) fun (y_8 : Nat → Int) =>
            bindK (FF_billetref01_Key y_8) fun (y_9 : Nat → Int) =>
            letK (eqA (32 : Nat) y_7 y_9) fun (w : Bool) =>
            sel w
              (bindK (FF_field_Sub (x, y)) fun (y_10 : Nat → Int) =>
                bindK (FF_field_Elem_Key y_10) fun (y_11 : Nat → Int) =>
                bindK (FF_billetref01_Sub (u, v)) fun (y_12 : Nat → Int) =>
                bindK (FF_billetref01_Key y_12) fun (y_13 : Nat → Int) =>
                letK (eqA (32 : Nat) y_11 y_13) fun (w : Bool) =>
                sel w
                  (bindK (FF_field_Inv x) fun (y_14 : Nat → Int) =>
                    bindK (FF_field_Elem_Key y_14) fun (y_15 : Nat → Int) =>
                    bindK (FF_billetref01_Inv u) fun (y_16 : Nat → Int) =>
                    bindK (FF_billetref01_Key y_16) fun (y_17 : Nat → Int) =>
                    letK (eqA (32 : Nat) y_15 y_17) fun (w : Bool) =>
                    sel w
                      (bindK (FF_field_Pick (a.2.2.2, x, y)) fun (y_18 : Nat → Int) =>
                        bindK (FF_field_Elem_Key y_18) fun (y_19 : Nat → Int) =>
                        bindK (FF_billetref01_Key z) fun (y_20 : Nat → Int) =>
                        letK (eqA (32 : Nat) y_19 y_20) fun (w : Bool) =>
                        sel w
                          (bindK (FF_field_Same (x, y)) fun (y : Bool) =>
                            letK (eqA (16 : Nat) u v) fun (v : Bool) =>
                            letK (y == v) fun (v : Bool) =>
                            sel v (bindK (FF_billetlaw01_wakes ()) fun (y : Bool) => some y)
                              (some false))
                          (some false))
                      (some false))
                  (some false))
              (some false))
          (some false)) fun r => r = true := by
    intro z l hz e1 e2
    refine ret_bind (field_Key_ret hx) ?_
    intro k hk
    refine ret_bind (ref_Key_ret hu) ?_
    intro k' hk'
    refine ret_let (ret_selT (same_keys hk hk') ?_)
    refine ret_bind (field_Num_ret h2 h3) ?_
    intro s hs
    refine ret_bind (field_Key_ret hs) ?_
    intro k hk
    refine ret_bind (ref_Small_ret h2 h3) ?_
    intro s hs
    refine ret_bind (ref_Key_ret hs) ?_
    intro k' hk'
    refine ret_let (ret_selT (same_keys hk hk') ?_)
    refine ret_bind (field_Sub_ret hx hy) ?_
    intro s hs
    refine ret_bind (field_Key_ret hs) ?_
    intro k hk
    refine ret_bind (ref_Sub_ret hu hv) ?_
    intro s hs
    refine ret_bind (ref_Key_ret hs) ?_
    intro k' hk'
    refine ret_let (ret_selT (same_keys hk hk') ?_)
    refine ret_bind (field_Inv_ret hx) ?_
    intro s hs
    refine ret_bind (field_Key_ret hs) ?_
    intro k hk
    refine ret_bind (ref_Inv_ret hu) ?_
    intro s hs
    refine ret_bind (ref_Key_ret hs) ?_
    intro k' hk'
    refine ret_let (ret_selT (same_keys hk hk') ?_)
    exact rest (q := x) hz e1 e2
  refine ret_let (ret_sel (fun h => ?_) (fun h => ?_))
  · have h : a.2.2.2 = 1 := by simpa using h
    exact all hv (fun _ => rfl) (fun h' => absurd h h')
  · have h : a.2.2.2 ≠ 1 := by simpa using h
    exact all hu (fun h' => absurd h' h) (fun _ => rfl)

end Go.Sx
