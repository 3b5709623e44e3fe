/- The laws of the field, as they stand translated; all with their callees. -/
import Derived.Test.YtagooceoocohpaaSyFr
set_option maxRecDepth 100000
set_option linter.unusedVariables false
namespace Go.Sx
noncomputable def F_billetlaw01_wakes :=
fun (g_field_Add : List (Nat → Int) → Option (Nat → Int)) (g_field_Elem_Key g_field_Inv : (Nat → Int) → Option (Nat → Int))
    (g_field_Mul : List (Nat → Int) → Option (Nat → Int)) (g_field_Num : Int → Option (Nat → Int)) (g_field_Of : (Nat → Int) → Option (Nat → Int))
    (g_field_Pick : Int × (Nat → Int) × (Nat → Int) → Option (Nat → Int)) (g_field_Same : (Nat → Int) × (Nat → Int) → Option Bool)
    (g_field_Sub : (Nat → Int) × (Nat → Int) → Option (Nat → Int)) (a : Unit) =>
  bindK (g_field_Num (7 : Int)) fun (y : Nat → Int) =>
    bindK (g_field_Num (5 : Int)) fun (y_1 : Nat → Int) =>
      letK (fun (x : Nat) => (0 : Int)) fun (v : Nat → Int) =>
        letK (fun (x : Nat) => (0 : Int)) fun (v : Nat → Int) =>
          letK [y, y_1] fun (v : List (Nat → Int)) =>
            bindK (g_field_Add v) fun (y_2 : Nat → Int) =>
              bindK (g_field_Elem_Key y_2) fun (y_3 : Nat → Int) =>
                letK (updA (fun (x : Nat) => (0 : Int)) (0 : Nat) (12 : Int)) fun (v : Nat → Int) =>
                  letK (eqA (32 : Nat) y_3 v) fun (v : Bool) =>
                    sel v
                      (letK [y, y_1] fun (v : List (Nat → Int)) =>
                        bindK (g_field_Mul v) fun (y_4 : Nat → Int) =>
                          bindK (g_field_Elem_Key y_4) fun (y_5 : Nat → Int) =>
                            letK (updA (fun (x : Nat) => (0 : Int)) (0 : Nat) (35 : Int)) fun (v : Nat → Int) =>
                              letK (eqA (32 : Nat) y_5 v) fun (v : Bool) =>
                                sel v
                                  (bindK (g_field_Sub (y, y_1)) fun (y_6 : Nat → Int) =>
                                    bindK (g_field_Elem_Key y_6) fun (y_7 : Nat → Int) =>
                                      letK (updA (fun (x : Nat) => (0 : Int)) (0 : Nat) (2 : Int)) fun (v : Nat → Int) =>
                                        letK (eqA (32 : Nat) y_7 v) fun (v : Bool) =>
                                          sel v
                                            (letK (updA (fun (x : Nat) => (0 : Int)) (0 : Nat) (7 : Int)) fun (v : Nat → Int) =>
                                              bindK (g_field_Of v) fun (y_8 : Nat → Int) =>
                                                bindK (g_field_Same (y, y_8)) fun (y_9 : Bool) =>
                                                  sel y_9
                                                    (bindK (g_field_Same (y, y_1)) fun (y_10 : Bool) =>
                                                      letK (!y_10) fun (v : Bool) =>
                                                        sel v
                                                          (bindK (g_field_Inv y) fun (y_11 : Nat → Int) =>
                                                            letK [y, y_11] fun (v : List (Nat → Int)) =>
                                                              bindK (g_field_Mul v) fun (y_12 : Nat → Int) =>
                                                                bindK (g_field_Num (1 : Int)) fun (y_13 : Nat → Int) =>
                                                                  bindK (g_field_Same (y_12, y_13)) fun (y_14 : Bool) =>
                                                                    sel y_14
                                                                      (bindK (g_field_Pick ((1 : Int), y, y_1)) fun (y : Nat → Int) =>
                                                                        bindK (g_field_Elem_Key y) fun (y : Nat → Int) =>
                                                                          letK (updA (fun (x : Nat) => (0 : Int)) (0 : Nat) (5 : Int)) fun (v : Nat → Int) =>
                                                                            letK (eqA (32 : Nat) y v) fun (v : Bool) => some v)
                                                                      (some false))
                                                          (some false))
                                                    (some false))
                                            (some false))
                                  (some false))
                      (some false)
noncomputable def F_billetlaw01_FieldSums :=
fun (g_billetlaw01_wakes : Unit → Option Bool) (g_billetref01_Add : (Nat → Int) × (Nat → Int) → Option (Nat → Int))
    (g_billetref01_Key : (Nat → Int) → Option (Nat → Int)) (g_billetref01_Mul : (Nat → Int) × (Nat → Int) → Option (Nat → Int))
    (g_billetref01_Of : (Nat → Int) → Option (Nat → Int)) (g_billetref01_Small : Int → Option (Nat → Int)) (g_field_Add : List (Nat → Int) → Option (Nat → Int))
    (g_field_Elem_Key : (Nat → Int) → Option (Nat → Int)) (g_field_Mul : List (Nat → Int) → Option (Nat → Int)) (g_field_Of : (Nat → Int) → Option (Nat → Int))
    (a : List (Nat → Int)) =>
  letK (↑a.length : Int) fun (v : Int) =>
    letK (decide (v > (40 : Int))) fun (v : Bool) =>
      sel v (bindK (g_billetlaw01_wakes ()) fun (y : Bool) => some y)
        (letK (fun (x : Nat) => (0 : Int)) fun (v : Nat → Int) =>
          bindK (g_billetref01_Small (1 : Int)) fun (y : Nat → Int) =>
            letK (fun (x : Nat) => (0 : Int)) fun (v_1 : Nat → Int) =>
              letK (fun (x : Nat) => (0 : Int)) fun (v_2 : Nat → Int) =>
                loopN
                  (fun (self : Int × List (Nat → Int) × List (Nat → Int) × (Nat → Int) × (Nat → Int) × Unit → Option Bool)
                      (x : Int × List (Nat → Int) × List (Nat → Int) × (Nat → Int) × (Nat → Int) × Unit) =>
                    letK (↑x.snd.snd.fst.length : Int) fun (v : Int) =>
                      letK (decide (x.fst < v)) fun (v : Bool) =>
                        sel v
                          (guardB (decide ((0 : Int) ≤ x.fst) && decide (x.fst < (↑x.snd.snd.fst.length : Int)))
                            (guardB (decide (x.fst.toNat < x.snd.snd.fst.length))
                              (letK (x.snd.snd.fst.getD x.fst.toNat fun (x : Nat) => (0 : Int)) fun (v : Nat → Int) =>
                                bindK (g_field_Of v) fun (y : Nat → Int) =>
                                  letK [y] fun (v : List (Nat → Int)) =>
                                    guardB (true && (true && decide ((x.snd.fst.length + v.length) * (40 : Nat) ≤ (140737488355328 : Nat))))
                                      (letK (x.snd.fst ++ v) fun (v : List (Nat → Int)) =>
                                        guardB (decide ((0 : Int) ≤ x.fst) && decide (x.fst < (↑x.snd.snd.fst.length : Int)))
                                          (guardB (decide (x.fst.toNat < x.snd.snd.fst.length))
                                            (letK (x.snd.snd.fst.getD x.fst.toNat fun (x : Nat) => (0 : Int)) fun (v_3 : Nat → Int) =>
                                              bindK (g_billetref01_Of v_3) fun (y : Nat → Int) =>
                                                bindK (g_billetref01_Add (x.snd.snd.snd.fst, y)) fun (y : Nat → Int) =>
                                                  guardB (decide ((0 : Int) ≤ x.fst) && decide (x.fst < (↑x.snd.snd.fst.length : Int)))
                                                    (guardB (decide (x.fst.toNat < x.snd.snd.fst.length))
                                                      (letK (x.snd.snd.fst.getD x.fst.toNat fun (x : Nat) => (0 : Int)) fun (v_4 : Nat → Int) =>
                                                        bindK (g_billetref01_Of v_4) fun (y_1 : Nat → Int) =>
                                                          bindK (g_billetref01_Mul (x.snd.snd.snd.snd.fst, y_1)) fun (y_2 : Nat → Int) =>
                                                            letK (IntKind.i64.wrap (x.fst + (1 : Int))) fun (v_5 : Int) =>
                                                              self (v_5, v, x.snd.snd.fst, y, y_2, ())))))))))
                          (bindK (g_field_Add x.snd.fst) fun (y : Nat → Int) =>
                            bindK (g_field_Elem_Key y) fun (y : Nat → Int) =>
                              bindK (g_billetref01_Key x.snd.snd.snd.fst) fun (y_1 : Nat → Int) =>
                                letK (eqA (32 : Nat) y y_1) fun (v : Bool) =>
                                  sel v
                                    (bindK (g_field_Mul x.snd.fst) fun (y : Nat → Int) =>
                                      bindK (g_field_Elem_Key y) fun (y : Nat → Int) =>
                                        bindK (g_billetref01_Key x.snd.snd.snd.snd.fst) fun (y_2 : Nat → Int) =>
                                          letK (eqA (32 : Nat) y y_2) fun (v : Bool) =>
                                            sel v (bindK (g_billetlaw01_wakes ()) fun (y : Bool) => some y) (some false))
                                    (some false)))
                  fuel ((0 : Int), [], a, v, y, ()))
noncomputable def F_billetlaw01_FieldRing :=
fun (g_billetlaw01_wakes : Unit → Option Bool) (g_field_Add g_field_Mul : List (Nat → Int) → Option (Nat → Int)) (g_field_Of : (Nat → Int) → Option (Nat → Int))
    (g_field_Same : (Nat → Int) × (Nat → Int) → Option Bool) (g_field_Sub : (Nat → Int) × (Nat → Int) → Option (Nat → Int))
    (a : (Nat → Int) × (Nat → Int) × (Nat → Int)) =>
  bindK (g_field_Of a.fst) fun (y : Nat → Int) =>
    bindK (g_field_Of a.snd.fst) fun (y_1 : Nat → Int) =>
      bindK (g_field_Of a.snd.snd) fun (y_2 : Nat → Int) =>
        letK (fun (x : Nat) => (0 : Int)) fun (v : Nat → Int) =>
          letK (fun (x : Nat) => (0 : Int)) fun (v : Nat → Int) =>
            letK (fun (x : Nat) => (0 : Int)) fun (v : Nat → Int) =>
              letK [y, y_1] fun (v : List (Nat → Int)) =>
                bindK (g_field_Add v) fun (y_3 : Nat → Int) =>
                  letK [y_1, y] fun (v : List (Nat → Int)) =>
                    bindK (g_field_Add v) fun (y_4 : Nat → Int) =>
                      bindK (g_field_Same (y_3, y_4)) fun (y_5 : Bool) =>
                        sel y_5
                          (letK [y, y_1] fun (v : List (Nat → Int)) =>
                            bindK (g_field_Mul v) fun (y_6 : Nat → Int) =>
                              letK [y_1, y] fun (v : List (Nat → Int)) =>
                                bindK (g_field_Mul v) fun (y_7 : Nat → Int) =>
                                  bindK (g_field_Same (y_6, y_7)) fun (y_8 : Bool) =>
                                    sel y_8
                                      (letK [y, y_1] fun (v : List (Nat → Int)) =>
                                        bindK (g_field_Add v) fun (y_9 : Nat → Int) =>
                                          letK [y_9, y_2] fun (v : List (Nat → Int)) =>
                                            bindK (g_field_Add v) fun (y_10 : Nat → Int) =>
                                              letK [y_1, y_2] fun (v : List (Nat → Int)) =>
                                                bindK (g_field_Add v) fun (y_11 : Nat → Int) =>
                                                  letK [y, y_11] fun (v : List (Nat → Int)) =>
                                                    bindK (g_field_Add v) fun (y_12 : Nat → Int) =>
                                                      bindK (g_field_Same (y_10, y_12)) fun (y_13 : Bool) =>
                                                        sel y_13
                                                          (letK [y, y_1] fun (v : List (Nat → Int)) =>
                                                            bindK (g_field_Mul v) fun (y_14 : Nat → Int) =>
                                                              letK [y_14, y_2] fun (v : List (Nat → Int)) =>
                                                                bindK (g_field_Mul v) fun (y_15 : Nat → Int) =>
                                                                  letK [y_1, y_2] fun (v : List (Nat → Int)) =>
                                                                    bindK (g_field_Mul v) fun (y_16 : Nat → Int) =>
                                                                      letK [y, y_16] fun (v : List (Nat → Int)) =>
                                                                        bindK (g_field_Mul v) fun (y_17 : Nat → Int) =>
                                                                          bindK (g_field_Same (y_15, y_17)) fun (y_18 : Bool) =>
                                                                            sel y_18
                                                                              (letK [y_1, y_2] fun (v : List (Nat → Int)) =>
                                                                                bindK (g_field_Add v) fun (y_19 : Nat → Int) =>
                                                                                  letK [y, y_19] fun (v : List (Nat → Int)) =>
                                                                                    bindK (g_field_Mul v) fun (y_20 : Nat → Int) =>
                                                                                      letK [y, y_1] fun (v : List (Nat → Int)) =>
                                                                                        bindK (g_field_Mul v) fun (y_21 : Nat → Int) =>
                                                                                          letK [y, y_2] fun (v : List (Nat → Int)) =>
                                                                                            bindK (g_field_Mul v) fun (y_22 : Nat → Int) =>
                                                                                              letK [y_21, y_22] fun (v : List (Nat → Int)) =>
                                                                                                bindK (g_field_Add v) fun (y_23 : Nat → Int) =>
                                                                                                  bindK (g_field_Same (y_20, y_23)) fun (y_24 : Bool) =>
                                                                                                    sel y_24
                                                                                                      (bindK (g_field_Sub (y, y_1)) fun (y_25 : Nat → Int) =>
                                                                                                        letK [y_25, y_1] fun (v : List (Nat → Int)) =>
                                                                                                          bindK (g_field_Add v) fun (y_26 : Nat → Int) =>
                                                                                                            bindK (g_field_Same (y_26, y)) fun (y_27 : Bool) =>
                                                                                                              sel y_27
                                                                                                                (letK [y, y_1, y_2]
                                                                                                                  fun (v : List (Nat → Int)) =>
                                                                                                                  bindK (g_field_Add v)
                                                                                                                    fun (y_28 : Nat → Int) =>
                                                                                                                    letK [y_1, y_2]
                                                                                                                      fun (v : List (Nat → Int)) =>
                                                                                                                      bindK (g_field_Add v)
                                                                                                                        fun (y_29 : Nat → Int) =>
                                                                                                                        letK [y, y_29]
                                                                                                                          fun (v : List (Nat → Int)) =>
                                                                                                                          bindK (g_field_Add v)
                                                                                                                            fun (y_30 : Nat → Int) =>
                                                                                                                            bindK (g_field_Same (y_28, y_30))
                                                                                                                              fun (y_31 : Bool) =>
                                                                                                                              sel y_31
                                                                                                                                (letK [y, y_1, y_2]
                                                                                                                                  fun (v : List (Nat → Int)) =>
                                                                                                                                  bindK (g_field_Mul v)
                                                                                                                                    fun (y_32 : Nat → Int) =>
                                                                                                                                    letK [y_1, y_2]
                                                                                                                                      fun
                                                                                                                                        (v :
                                                                                                                                          List (Nat → Int)) =>
                                                                                                                                      bindK (g_field_Mul v)
                                                                                                                                        fun
                                                                                                                                          (y_33 : Nat → Int) =>
                                                                                                                                        letK [y, y_33]
                                                                                                                                          fun
                                                                                                                                            (v :
                                                                                                                                              List
                                                                                                                                                (Nat → Int)) =>
                                                                                                                                          bindK (g_field_Mul v)
                                                                                                                                            fun
                                                                                                                                              (y : Nat → Int) =>
                                                                                                                                            bindK
                                                                                                                                              (g_field_Same
                                                                                                                                                (y_32, y))
                                                                                                                                              fun (y : Bool) =>
                                                                                                                                              sel y
                                                                                                                                                (bindK
                                                                                                                                                  (g_billetlaw01_wakes
                                                                                                                                                    ())
                                                                                                                                                  fun
                                                                                                                                                    (y :
                                                                                                                                                      Bool) =>
                                                                                                                                                  some y)
                                                                                                                                                (some false))
                                                                                                                                (some false))
                                                                                                                (some false))
                                                                                                      (some false))
                                                                              (some false))
                                                          (some false))
                                      (some false))
                          (some false)
noncomputable def F_billetlaw01_FieldInverts :=
fun (g_billetlaw01_wakes : Unit → Option Bool) (g_field_Inv : (Nat → Int) → Option (Nat → Int)) (g_field_Mul : List (Nat → Int) → Option (Nat → Int))
    (g_field_Num : Int → Option (Nat → Int)) (g_field_Of : (Nat → Int) → Option (Nat → Int)) (g_field_Same : (Nat → Int) × (Nat → Int) → Option Bool)
    (a : (Nat → Int) × (Nat → Int)) =>
  bindK (g_field_Of a.fst) fun (y : Nat → Int) =>
    bindK (g_field_Of a.snd) fun (y_1 : Nat → Int) =>
      letK (fun (x : Nat) => (0 : Int)) fun (v : Nat → Int) =>
        letK (fun (x : Nat) => (0 : Int)) fun (v : Nat → Int) =>
          bindK (g_field_Num (1 : Int)) fun (y_2 : Nat → Int) =>
            bindK (g_field_Num (0 : Int)) fun (y_3 : Nat → Int) =>
              letK (fun (x : Nat) => (0 : Int)) fun (v : Nat → Int) =>
                letK (fun (x : Nat) => (0 : Int)) fun (v : Nat → Int) =>
                  bindK (g_field_Inv y) fun (y_4 : Nat → Int) =>
                    letK (fun (x : Nat) => (0 : Int)) fun (v : Nat → Int) =>
                      bindK (g_field_Same (y, y_3)) fun (y_5 : Bool) =>
                        sel y_5 (bindK (g_field_Same (y_4, y_3)) fun (y : Bool) => sel y (bindK (g_billetlaw01_wakes ()) fun (y : Bool) => some y) (some false))
                          (letK [y, y_4] fun (v : List (Nat → Int)) =>
                            bindK (g_field_Mul v) fun (y_6 : Nat → Int) =>
                              bindK (g_field_Same (y_6, y_2)) fun (y_7 : Bool) =>
                                sel y_7
                                  (bindK (g_field_Inv y_4) fun (y_8 : Nat → Int) =>
                                    bindK (g_field_Same (y_8, y)) fun (y_9 : Bool) =>
                                      sel y_9
                                        (letK [y, y_1] fun (v : List (Nat → Int)) =>
                                          bindK (g_field_Mul v) fun (y : Nat → Int) =>
                                            bindK (g_field_Inv y) fun (y : Nat → Int) =>
                                              bindK (g_field_Inv y_1) fun (y_10 : Nat → Int) =>
                                                letK [y_4, y_10] fun (v : List (Nat → Int)) =>
                                                  bindK (g_field_Mul v) fun (y_11 : Nat → Int) =>
                                                    bindK (g_field_Same (y, y_11)) fun (y : Bool) =>
                                                      sel y (bindK (g_billetlaw01_wakes ()) fun (y : Bool) => some y) (some false))
                                        (some false))
                                  (some false))
noncomputable def F_billetlaw01_FieldBytes :=
fun (g_billetlaw01_wakes : Unit → Option Bool) (g_field_Elem_Key : (Nat → Int) → Option (Nat → Int)) (g_field_Num : Int → Option (Nat → Int))
    (g_field_Of : (Nat → Int) → Option (Nat → Int)) (g_field_Same : (Nat → Int) × (Nat → Int) → Option Bool) (a : (Nat → Int) × (Nat → Int)) =>
  bindK (g_field_Of a.fst) fun (y : Nat → Int) =>
    bindK (g_field_Of a.snd) fun (y_1 : Nat → Int) =>
      letK (fun (x : Nat) => (0 : Int)) fun (v : Nat → Int) =>
        letK (fun (x : Nat) => (0 : Int)) fun (v : Nat → Int) =>
          bindK (g_field_Elem_Key y) fun (y_2 : Nat → Int) =>
            letK (fun (x : Nat) => (0 : Int)) fun (v : Nat → Int) =>
              letK (fun (x : Nat) => (0 : Int)) fun (v : Nat → Int) =>
                letK (a.fst (31 : Nat)) fun (v : Int) =>
                  letK (xorI IntKind.u8 v (128 : Int)) fun (v : Int) =>
                    letK (updA a.fst (31 : Nat) v) fun (v : Nat → Int) =>
                      bindK
                        (letK (y_2 (31 : Nat)) fun (v : Int) =>
                          letK (decide (v < (127 : Int))) fun (v : Bool) =>
                            sel v (some (true, ())) (letK (y_2 (0 : Nat)) fun (v : Int) => letK (decide (v < (237 : Int))) fun (v : Bool) => some (v, ())))
                        fun (y_3 : Bool × Unit) =>
                        loopN
                          (fun (self : Bool × Int × (Nat → Int) × (Nat → Int) × (Nat → Int) × (Nat → Int) × Unit → Option Bool)
                              (x : Bool × Int × (Nat → Int) × (Nat → Int) × (Nat → Int) × (Nat → Int) × Unit) =>
                            letK (decide (x.snd.fst < (31 : Int))) fun (v : Bool) =>
                              sel v
                                (bindK
                                  (sel x.fst (some (true, ()))
                                    (guardB (decide ((0 : Int) ≤ x.snd.fst) && decide (x.snd.fst < (32 : Int)))
                                      (letK (x.snd.snd.snd.snd.fst x.snd.fst.toNat) fun (v : Int) =>
                                        letK (decide (v < (255 : Int))) fun (v : Bool) => some (v, ()))))
                                  fun (y : Bool × Unit) =>
                                  letK (IntKind.i64.wrap (x.snd.fst + (1 : Int))) fun (v : Int) =>
                                    self (y.fst, v, x.snd.snd.fst, x.snd.snd.snd.fst, x.snd.snd.snd.snd.fst, x.snd.snd.snd.snd.snd.fst, ()))
                                (letK (x.snd.snd.snd.snd.fst (31 : Nat)) fun (v : Int) =>
                                  letK (decide (v < (128 : Int))) fun (v : Bool) =>
                                    sel v
                                      (sel x.fst
                                        (bindK (g_field_Of x.snd.snd.snd.snd.fst) fun (y : Nat → Int) =>
                                          bindK (g_field_Same (y, x.snd.snd.fst)) fun (y : Bool) =>
                                            sel y
                                              (bindK (g_field_Of x.snd.snd.snd.snd.snd.fst) fun (y : Nat → Int) =>
                                                bindK (g_field_Same (y, x.snd.snd.fst)) fun (y : Bool) =>
                                                  sel y
                                                    (bindK (g_field_Same (x.snd.snd.fst, x.snd.snd.snd.fst)) fun (y : Bool) =>
                                                      bindK (g_field_Elem_Key x.snd.snd.snd.fst) fun (y_4 : Nat → Int) =>
                                                        letK (eqA (32 : Nat) x.snd.snd.snd.snd.fst y_4) fun (v : Bool) =>
                                                          letK (y == v) fun (v : Bool) =>
                                                            sel v
                                                              (letK (fun (x : Nat) => (0 : Int)) fun (v : Nat → Int) =>
                                                                bindK (g_field_Num (0 : Int)) fun (y : Nat → Int) =>
                                                                  bindK (g_field_Same (v, y)) fun (y : Bool) =>
                                                                    sel y (bindK (g_billetlaw01_wakes ()) fun (y : Bool) => some y) (some false))
                                                              (some false))
                                                    (some false))
                                              (some false))
                                        (some false))
                                      (some false)))
                          fuel (y_3.fst, (1 : Int), y, y_1, y_2, v, ())
noncomputable abbrev FF_field_carried := F_field_carried
noncomputable abbrev FF_field_least := F_field_least FF_field_carried
noncomputable abbrev FF_field_Of := F_field_Of FF_field_least
noncomputable abbrev FF_billetref01_prime := F_billetref01_prime
noncomputable abbrev FF_billetref01_carry := F_billetref01_carry
noncomputable abbrev FF_billetref01_full := F_billetref01_full FF_billetref01_carry FF_billetref01_prime
noncomputable abbrev FF_billetref01_Of := F_billetref01_Of FF_billetref01_full
noncomputable abbrev FF_field_Elem_Key := F_field_Elem_Key
noncomputable abbrev FF_billetref01_Key := F_billetref01_Key
noncomputable abbrev FF_billetref01_Small := F_billetref01_Small FF_billetref01_full
noncomputable abbrev FF_field_Num := F_field_Num
noncomputable abbrev FF_field_Sub := F_field_Sub FF_field_least
noncomputable abbrev FF_math_bits_Mul64 := F_math_bits_Mul64
noncomputable abbrev FF_math_bits_Add64 := add64
noncomputable abbrev FF_field_times := F_field_times FF_field_least FF_math_bits_Add64 FF_math_bits_Mul64
noncomputable abbrev FF_field_Inv := F_field_Inv FF_field_Num FF_field_times
noncomputable abbrev FF_field_Pick := F_field_Pick
noncomputable abbrev FF_field_Same := F_field_Same
noncomputable abbrev FF_field_Add := F_field_Add FF_field_least
noncomputable abbrev FF_field_Mul := F_field_Mul FF_field_Num FF_field_times
noncomputable abbrev FF_billetlaw01_wakes := F_billetlaw01_wakes FF_field_Add FF_field_Elem_Key FF_field_Inv FF_field_Mul FF_field_Num FF_field_Of FF_field_Pick FF_field_Same FF_field_Sub
noncomputable abbrev FF_billetref01_Add := F_billetref01_Add FF_billetref01_full
noncomputable abbrev FF_billetref01_Mul := F_billetref01_Mul FF_billetref01_full
noncomputable abbrev FF_billetlaw01_FieldSums := F_billetlaw01_FieldSums FF_billetlaw01_wakes FF_billetref01_Add FF_billetref01_Key FF_billetref01_Mul FF_billetref01_Of FF_billetref01_Small FF_field_Add FF_field_Elem_Key FF_field_Mul FF_field_Of
noncomputable abbrev FF_billetlaw01_FieldRing := F_billetlaw01_FieldRing FF_billetlaw01_wakes FF_field_Add FF_field_Mul FF_field_Of FF_field_Same FF_field_Sub
noncomputable abbrev FF_billetlaw01_FieldInverts := F_billetlaw01_FieldInverts FF_billetlaw01_wakes FF_field_Inv FF_field_Mul FF_field_Num FF_field_Of FF_field_Same
noncomputable abbrev FF_billetlaw01_FieldBytes := F_billetlaw01_FieldBytes FF_billetlaw01_wakes FF_field_Elem_Key FF_field_Num FF_field_Of FF_field_Same
end Go.Sx
