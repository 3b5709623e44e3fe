/-
  Functions of the field: what they hand back.
-/
import Derived.Test.YtagooceoocohpaaSyAr
set_option maxRecDepth 100000
set_option linter.unusedVariables false
namespace Go.Sx
noncomputable def F_field_carried :=
fun (a : Nat → Int) =>
  letK (fun (x : Nat) => (0 : Int)) fun (v : Nat → Int) =>
    loopN
      (fun (self : Int × (Nat → Int) × (Nat → Int) × Unit → Option (Nat → Int)) (x : Int × (Nat → Int) × (Nat → Int) × Unit) =>
        letK (decide (x.fst < (2 : Int))) fun (v : Bool) =>
          sel v
            (loopN
              (fun (self_1 : Int × Int × Int × (Nat → Int) × (Nat → Int) × Unit → Option (Nat → Int))
                  (x : Int × Int × Int × (Nat → Int) × (Nat → Int) × Unit) =>
                letK (decide (x.snd.snd.fst < (5 : Int))) fun (v : Bool) =>
                  sel v
                    (guardB (decide ((0 : Int) ≤ x.snd.snd.fst) && decide (x.snd.snd.fst < (5 : Int)))
                      (letK (x.snd.snd.snd.fst x.snd.snd.fst.toNat) fun (v : Int) =>
                        letK (IntKind.u64.wrap (v + x.fst)) fun (v : Int) =>
                          guardB (decide ((0 : Int) ≤ x.snd.snd.fst) && decide (x.snd.snd.fst < (5 : Int)))
                            (letK (updA x.snd.snd.snd.fst x.snd.snd.fst.toNat v) fun (v : Nat → Int) =>
                              guardB (decide ((0 : Int) ≤ x.snd.snd.fst) && decide (x.snd.snd.fst < (5 : Int)))
                                (letK (v x.snd.snd.fst.toNat) fun (v_1 : Int) =>
                                  letK (shrI IntKind.u64 v_1 (51 : Int)) fun (v_2 : Int) =>
                                    guardB (decide ((0 : Int) ≤ x.snd.snd.fst) && decide (x.snd.snd.fst < (5 : Int)))
                                      (letK (v x.snd.snd.fst.toNat) fun (v_3 : Int) =>
                                        letK (andI IntKind.u64 v_3 (2251799813685247 : Int)) fun (v_4 : Int) =>
                                          guardB (decide ((0 : Int) ≤ x.snd.snd.fst) && decide (x.snd.snd.fst < (5 : Int)))
                                            (letK (updA v x.snd.snd.fst.toNat v_4) fun (v : Nat → Int) =>
                                              letK (IntKind.i64.wrap (x.snd.snd.fst + (1 : Int))) fun (v_5 : Int) =>
                                                self_1 (v_2, x.snd.fst, v_5, v, x.snd.snd.snd.snd.fst, ())))))))
                    (letK (x.snd.snd.snd.fst (0 : Nat)) fun (v : Int) =>
                      letK (IntKind.u64.wrap ((19 : Int) * x.fst)) fun (v_1 : Int) =>
                        letK (IntKind.u64.wrap (v + v_1)) fun (v : Int) =>
                          letK (updA x.snd.snd.snd.fst (0 : Nat) v) fun (v : Nat → Int) =>
                            letK (IntKind.i64.wrap (x.snd.fst + (1 : Int))) fun (v_2 : Int) => self (v_2, v, x.snd.snd.snd.snd.fst, ())))
              fuel ((0 : Int), x.fst, (0 : Int), x.snd.fst, x.snd.snd.fst, ()))
            (some x.snd.fst))
      fuel ((0 : Int), a, v, ())
noncomputable def F_field_least :=
fun (g_field_carried : (Nat → Int) → Option (Nat → Int)) (a : Nat → Int) =>
  letK (fun (x : Nat) => (0 : Int)) fun (v : Nat → Int) =>
    bindK (g_field_carried a) fun (y : Nat → Int) =>
      loopN
        (fun (self : Int × (Nat → Int) × Int × (Nat → Int) × (Nat → Int) × Unit → Option (Nat → Int))
            (x : Int × (Nat → Int) × Int × (Nat → Int) × (Nat → Int) × Unit) =>
          letK (decide (x.snd.snd.fst < (5 : Int))) fun (v : Bool) =>
            sel v
              (guardB (decide ((0 : Int) ≤ x.snd.snd.fst) && decide (x.snd.snd.fst < (5 : Int)))
                (letK (x.snd.fst x.snd.snd.fst.toNat) fun (v : Int) =>
                  letK (IntKind.u64.wrap (v + x.fst)) fun (v : Int) =>
                    letK (shrI IntKind.u64 v (51 : Int)) fun (v : Int) =>
                      letK (IntKind.i64.wrap (x.snd.snd.fst + (1 : Int))) fun (v_1 : Int) =>
                        self (v, x.snd.fst, v_1, x.snd.snd.snd.fst, x.snd.snd.snd.snd.fst, ())))
              (letK (x.snd.snd.snd.fst (0 : Nat)) fun (v : Int) =>
                letK (IntKind.u64.wrap ((19 : Int) * x.fst)) fun (v_1 : Int) =>
                  letK (IntKind.u64.wrap (v + v_1)) fun (v : Int) =>
                    letK (updA x.snd.snd.snd.fst (0 : Nat) v) fun (v : Nat → Int) =>
                      loopN
                        (fun (self : Int × Int × (Nat → Int) × (Nat → Int) × Unit → Option (Nat → Int)) (x : Int × Int × (Nat → Int) × (Nat → Int) × Unit) =>
                          letK (decide (x.snd.fst < (5 : Int))) fun (v : Bool) =>
                            sel v
                              (guardB (decide ((0 : Int) ≤ x.snd.fst) && decide (x.snd.fst < (5 : Int)))
                                (letK (x.snd.snd.fst x.snd.fst.toNat) fun (v : Int) =>
                                  letK (IntKind.u64.wrap (v + x.fst)) fun (v : Int) =>
                                    guardB (decide ((0 : Int) ≤ x.snd.fst) && decide (x.snd.fst < (5 : Int)))
                                      (letK (updA x.snd.snd.fst x.snd.fst.toNat v) fun (v : Nat → Int) =>
                                        guardB (decide ((0 : Int) ≤ x.snd.fst) && decide (x.snd.fst < (5 : Int)))
                                          (letK (v x.snd.fst.toNat) fun (v_2 : Int) =>
                                            letK (shrI IntKind.u64 v_2 (51 : Int)) fun (v_3 : Int) =>
                                              guardB (decide ((0 : Int) ≤ x.snd.fst) && decide (x.snd.fst < (5 : Int)))
                                                (letK (v x.snd.fst.toNat) fun (v_4 : Int) =>
                                                  letK (andI IntKind.u64 v_4 (2251799813685247 : Int)) fun (v_5 : Int) =>
                                                    guardB (decide ((0 : Int) ≤ x.snd.fst) && decide (x.snd.fst < (5 : Int)))
                                                      (letK (updA v x.snd.fst.toNat v_5) fun (v : Nat → Int) =>
                                                        letK (IntKind.i64.wrap (x.snd.fst + (1 : Int))) fun (v_6 : Int) =>
                                                          self (v_3, v_6, v, x.snd.snd.snd.fst, ())))))))
                              (some x.snd.snd.fst))
                        fuel ((0 : Int), (0 : Int), v, x.snd.snd.snd.snd.fst, ())))
        fuel ((19 : Int), y, (0 : Int), y, v, ())
noncomputable def F_field_Of :=
fun (g_field_least : (Nat → Int) → Option (Nat → Int)) (a : Nat → Int) =>
  letK (fun (x : Nat) => (0 : Int)) fun (v : Nat → Int) =>
    letK (fun (x : Nat) => (0 : Int)) fun (v_1 : Nat → Int) =>
      loopN
        (fun (self : (Nat → Int) × Int × (Nat → Int) × (Nat → Int) × Unit → Option (Nat → Int)) (x : (Nat → Int) × Int × (Nat → Int) × (Nat → Int) × Unit) =>
          letK (decide (x.snd.fst < (32 : Int))) fun (v : Bool) =>
            sel v
              (guardB (decide ((0 : Int) ≤ x.snd.fst) && decide (x.snd.fst < (32 : Int)))
                (letK (x.fst x.snd.fst.toNat) fun (v : Int) =>
                  letK (IntKind.i64.wrap (x.snd.fst.tdiv (8 : Int))) fun (v_2 : Int) =>
                    guardB (decide ((0 : Int) ≤ v_2) && decide (v_2 < (4 : Int)))
                      (letK (x.snd.snd.snd.fst v_2.toNat) fun (v_3 : Int) =>
                        letK (IntKind.u64.wrap v) fun (v : Int) =>
                          letK (x.snd.fst.tmod (8 : Int)) fun (v_4 : Int) =>
                            letK (IntKind.i64.wrap ((8 : Int) * v_4)) fun (v_5 : Int) =>
                              guardB (decide ((0 : Int) ≤ v_5))
                                (letK (shlI IntKind.u64 v v_5) fun (v : Int) =>
                                  letK (orI IntKind.u64 v_3 v) fun (v : Int) =>
                                    guardB (decide ((0 : Int) ≤ v_2) && decide (v_2 < (4 : Int)))
                                      (letK (updA x.snd.snd.snd.fst v_2.toNat v) fun (v : Nat → Int) =>
                                        letK (IntKind.i64.wrap (x.snd.fst + (1 : Int))) fun (v_6 : Int) => self (x.fst, v_6, x.snd.snd.fst, v, ()))))))
              (letK (x.snd.snd.snd.fst (0 : Nat)) fun (v : Int) =>
                letK (andI IntKind.u64 v (2251799813685247 : Int)) fun (v : Int) =>
                  letK (x.snd.snd.snd.fst (0 : Nat)) fun (v_2 : Int) =>
                    letK (shrI IntKind.u64 v_2 (51 : Int)) fun (v_3 : Int) =>
                      letK (x.snd.snd.snd.fst (1 : Nat)) fun (v_4 : Int) =>
                        letK (shlI IntKind.u64 v_4 (13 : Int)) fun (v_5 : Int) =>
                          letK (orI IntKind.u64 v_3 v_5) fun (v_6 : Int) =>
                            letK (andI IntKind.u64 v_6 (2251799813685247 : Int)) fun (v_7 : Int) =>
                              letK (x.snd.snd.snd.fst (1 : Nat)) fun (v_8 : Int) =>
                                letK (shrI IntKind.u64 v_8 (38 : Int)) fun (v_9 : Int) =>
                                  letK (x.snd.snd.snd.fst (2 : Nat)) fun (v_10 : Int) =>
                                    letK (shlI IntKind.u64 v_10 (26 : Int)) fun (v_11 : Int) =>
                                      letK (orI IntKind.u64 v_9 v_11) fun (v_12 : Int) =>
                                        letK (andI IntKind.u64 v_12 (2251799813685247 : Int)) fun (v_13 : Int) =>
                                          letK (x.snd.snd.snd.fst (2 : Nat)) fun (v_14 : Int) =>
                                            letK (shrI IntKind.u64 v_14 (25 : Int)) fun (v_15 : Int) =>
                                              letK (x.snd.snd.snd.fst (3 : Nat)) fun (v_16 : Int) =>
                                                letK (shlI IntKind.u64 v_16 (39 : Int)) fun (v_17 : Int) =>
                                                  letK (orI IntKind.u64 v_15 v_17) fun (v_18 : Int) =>
                                                    letK (andI IntKind.u64 v_18 (2251799813685247 : Int)) fun (v_19 : Int) =>
                                                      letK (x.snd.snd.snd.fst (3 : Nat)) fun (v_20 : Int) =>
                                                        letK (shrI IntKind.u64 v_20 (12 : Int)) fun (v_21 : Int) =>
                                                          letK (andI IntKind.u64 v_21 (2251799813685247 : Int)) fun (v_22 : Int) =>
                                                            letK
                                                              (updA
                                                                (updA (updA (updA (updA (fun (x : Nat) => (0 : Int)) (0 : Nat) v) (1 : Nat) v_7) (2 : Nat) v_13)
                                                                  (3 : Nat) v_19)
                                                                (4 : Nat) v_22)
                                                              fun (v : Nat → Int) => bindK (g_field_least v) fun (y : Nat → Int) => some y))
        fuel (a, (0 : Int), v, v_1, ())
noncomputable def F_field_Num :=
fun (a : Int) =>
  letK (fun (x : Nat) => (0 : Int)) fun (v : Nat → Int) =>
    letK (andI IntKind.u64 a (2251799813685247 : Int)) fun (v : Int) =>
      letK (shrI IntKind.u64 a (51 : Int)) fun (v_1 : Int) =>
        letK (updA (updA (fun (x : Nat) => (0 : Int)) (0 : Nat) v) (1 : Nat) v_1) fun (v : Nat → Int) => some v
noncomputable def F_field_Sub :=
fun (g_field_least : (Nat → Int) → Option (Nat → Int)) (a : (Nat → Int) × (Nat → Int)) =>
  letK (fun (x : Nat) => (0 : Int)) fun (v : Nat → Int) =>
    letK
      (updA
        (updA
          (updA (updA (updA (fun (x : Nat) => (0 : Int)) (0 : Nat) (4503599627370458 : Int)) (1 : Nat) (4503599627370494 : Int)) (2 : Nat)
            (4503599627370494 : Int))
          (3 : Nat) (4503599627370494 : Int))
        (4 : Nat) (4503599627370494 : Int))
      fun (v_1 : Nat → Int) =>
      letK (fun (x : Nat) => (0 : Int)) fun (v_2 : Nat → Int) =>
        loopN
          (fun (self : Int × (Nat → Int) × (Nat → Int) × (Nat → Int) × (Nat → Int) × Unit → Option (Nat → Int))
              (x : Int × (Nat → Int) × (Nat → Int) × (Nat → Int) × (Nat → Int) × Unit) =>
            letK (decide (x.fst < (5 : Int))) fun (v : Bool) =>
              sel v
                (guardB (decide ((0 : Int) ≤ x.fst) && decide (x.fst < (5 : Int)))
                  (letK (x.snd.fst x.fst.toNat) fun (v : Int) =>
                    guardB (decide ((0 : Int) ≤ x.fst) && decide (x.fst < (5 : Int)))
                      (letK (x.snd.snd.snd.snd.fst x.fst.toNat) fun (v_3 : Int) =>
                        guardB (decide ((0 : Int) ≤ x.fst) && decide (x.fst < (5 : Int)))
                          (letK (x.snd.snd.fst x.fst.toNat) fun (v_4 : Int) =>
                            letK (IntKind.u64.wrap (v_3 - v_4)) fun (v_5 : Int) =>
                              letK (IntKind.u64.wrap (v + v_5)) fun (v : Int) =>
                                guardB (decide ((0 : Int) ≤ x.fst) && decide (x.fst < (5 : Int)))
                                  (letK (updA x.snd.fst x.fst.toNat v) fun (v : Nat → Int) =>
                                    letK (IntKind.i64.wrap (x.fst + (1 : Int))) fun (v_6 : Int) =>
                                      self (v_6, v, x.snd.snd.fst, x.snd.snd.snd.fst, x.snd.snd.snd.snd.fst, ()))))))
                (bindK (g_field_least x.snd.fst) fun (y : Nat → Int) => some y))
          fuel ((0 : Int), a.fst, a.snd, v, v_1, ())
noncomputable def F_field_times :=
fun (g_field_least : (Nat → Int) → Option (Nat → Int)) (g_math_bits_Add64 : Int × Int × Int → Option (Int × Int))
    (g_math_bits_Mul64 : Int × Int → Option (Int × Int)) (a : (Nat → Int) × (Nat → Int)) =>
  letK (fun (x : Nat) => (0 : Int)) fun (v : Nat → Int) =>
    letK (fun (x : Nat) => (0 : Int)) fun (v_1 : Nat → Int) =>
      letK (fun (x : Nat) => (0 : Int)) fun (v_2 : Nat → Int) =>
        loopN
          (fun (self : (Nat → Int) × Int × (Nat → Int) × (Nat → Int) × (Nat → Int) × (Nat → Int) × Unit → Option (Nat → Int))
              (x : (Nat → Int) × Int × (Nat → Int) × (Nat → Int) × (Nat → Int) × (Nat → Int) × Unit) =>
            letK (decide (x.snd.fst < (5 : Int))) fun (v : Bool) =>
              sel v
                (guardB (decide ((0 : Int) ≤ x.snd.fst) && decide (x.snd.fst < (5 : Int)))
                  (letK (x.fst x.snd.fst.toNat) fun (v : Int) =>
                    loopN
                      (fun
                          (self_1 :
                            Int × Int × (Nat → Int) × Int × (Nat → Int) × Int × (Nat → Int) × (Nat → Int) × (Nat → Int) × (Nat → Int) × Unit →
                              Option (Nat → Int))
                          (x : Int × Int × (Nat → Int) × Int × (Nat → Int) × Int × (Nat → Int) × (Nat → Int) × (Nat → Int) × (Nat → Int) × Unit) =>
                        letK (decide (x.snd.snd.snd.snd.snd.fst < (5 : Int))) fun (v : Bool) =>
                          sel v
                            (guardB (decide ((0 : Int) ≤ x.snd.snd.snd.snd.snd.fst) && decide (x.snd.snd.snd.snd.snd.fst < (5 : Int)))
                              (letK (x.snd.snd.snd.snd.fst x.snd.snd.snd.snd.snd.fst.toNat) fun (v : Int) =>
                                letK (IntKind.i64.wrap (x.fst + x.snd.snd.snd.snd.snd.fst)) fun (v_3 : Int) =>
                                  letK (decide (v_3 ≥ (5 : Int))) fun (v_4 : Bool) =>
                                    sel v_4
                                      (letK (IntKind.i64.wrap (v_3 - (5 : Int))) fun (v_5 : Int) =>
                                        letK (IntKind.u64.wrap (x.snd.fst * (19 : Int))) fun (v_6 : Int) =>
                                          bindK (g_math_bits_Mul64 (v_6, v)) fun (y : Int × Int) =>
                                            guardB (decide ((0 : Int) ≤ v_5) && decide (v_5 < (5 : Int)))
                                              (letK (x.snd.snd.snd.snd.snd.snd.snd.snd.snd.fst v_5.toNat) fun (v : Int) =>
                                                bindK (g_math_bits_Add64 (v, y.snd, (0 : Int))) fun (y_1 : Int × Int) =>
                                                  guardB (decide ((0 : Int) ≤ v_5) && decide (v_5 < (5 : Int)))
                                                    (letK (updA x.snd.snd.snd.snd.snd.snd.snd.snd.snd.fst v_5.toNat y_1.fst) fun (v : Nat → Int) =>
                                                      guardB (decide ((0 : Int) ≤ v_5) && decide (v_5 < (5 : Int)))
                                                        (letK (x.snd.snd.snd.snd.snd.snd.snd.snd.fst v_5.toNat) fun (v_7 : Int) =>
                                                          letK (IntKind.u64.wrap (y.fst + y_1.snd)) fun (v_8 : Int) =>
                                                            letK (IntKind.u64.wrap (v_7 + v_8)) fun (v_9 : Int) =>
                                                              guardB (decide ((0 : Int) ≤ v_5) && decide (v_5 < (5 : Int)))
                                                                (letK (updA x.snd.snd.snd.snd.snd.snd.snd.snd.fst v_5.toNat v_9) fun (v_10 : Nat → Int) =>
                                                                  letK (IntKind.i64.wrap (x.snd.snd.snd.snd.snd.fst + (1 : Int))) fun (v_11 : Int) =>
                                                                    self_1
                                                                      (x.fst, x.snd.fst, x.snd.snd.fst, x.snd.snd.snd.fst, x.snd.snd.snd.snd.fst, v_11,
                                                                        x.snd.snd.snd.snd.snd.snd.fst, x.snd.snd.snd.snd.snd.snd.snd.fst, v_10, v, ()))))))
                                      (bindK (g_math_bits_Mul64 (x.snd.fst, v)) fun (y : Int × Int) =>
                                        guardB (decide ((0 : Int) ≤ v_3) && decide (v_3 < (5 : Int)))
                                          (letK (x.snd.snd.snd.snd.snd.snd.snd.snd.snd.fst v_3.toNat) fun (v : Int) =>
                                            bindK (g_math_bits_Add64 (v, y.snd, (0 : Int))) fun (y_1 : Int × Int) =>
                                              guardB (decide ((0 : Int) ≤ v_3) && decide (v_3 < (5 : Int)))
                                                (letK (updA x.snd.snd.snd.snd.snd.snd.snd.snd.snd.fst v_3.toNat y_1.fst) fun (v : Nat → Int) =>
                                                  guardB (decide ((0 : Int) ≤ v_3) && decide (v_3 < (5 : Int)))
                                                    (letK (x.snd.snd.snd.snd.snd.snd.snd.snd.fst v_3.toNat) fun (v_5 : Int) =>
                                                      letK (IntKind.u64.wrap (y.fst + y_1.snd)) fun (v_6 : Int) =>
                                                        letK (IntKind.u64.wrap (v_5 + v_6)) fun (v_7 : Int) =>
                                                          guardB (decide ((0 : Int) ≤ v_3) && decide (v_3 < (5 : Int)))
                                                            (letK (updA x.snd.snd.snd.snd.snd.snd.snd.snd.fst v_3.toNat v_7) fun (v_8 : Nat → Int) =>
                                                              letK (IntKind.i64.wrap (x.snd.snd.snd.snd.snd.fst + (1 : Int))) fun (v_9 : Int) =>
                                                                self_1
                                                                  (x.fst, x.snd.fst, x.snd.snd.fst, x.snd.snd.snd.fst, x.snd.snd.snd.snd.fst, v_9,
                                                                    x.snd.snd.snd.snd.snd.snd.fst, x.snd.snd.snd.snd.snd.snd.snd.fst, v_8, v, ()))))))))
                            (letK (IntKind.i64.wrap (x.snd.snd.snd.fst + (1 : Int))) fun (v : Int) =>
                              self
                                (x.snd.snd.fst, v, x.snd.snd.snd.snd.snd.snd.fst, x.snd.snd.snd.snd.snd.snd.snd.fst, x.snd.snd.snd.snd.snd.snd.snd.snd.fst,
                                  x.snd.snd.snd.snd.snd.snd.snd.snd.snd.fst, ())))
                      fuel
                      (x.snd.fst, v, x.fst, x.snd.fst, x.snd.snd.fst, (0 : Int), x.snd.snd.fst, x.snd.snd.snd.fst, x.snd.snd.snd.snd.fst,
                        x.snd.snd.snd.snd.snd.fst, ())))
                (letK (fun (x : Nat) => (0 : Int)) fun (v : Nat → Int) =>
                  loopN
                    (fun (self : Int × Int × (Nat → Int) × (Nat → Int) × (Nat → Int) × (Nat → Int) × Unit → Option (Nat → Int))
                        (x : Int × Int × (Nat → Int) × (Nat → Int) × (Nat → Int) × (Nat → Int) × Unit) =>
                      letK (decide (x.snd.fst < (5 : Int))) fun (v : Bool) =>
                        sel v
                          (guardB (decide ((0 : Int) ≤ x.snd.fst) && decide (x.snd.fst < (5 : Int)))
                            (letK (x.snd.snd.snd.snd.fst x.snd.fst.toNat) fun (v : Int) =>
                              bindK (g_math_bits_Add64 (v, x.fst, (0 : Int))) fun (y : Int × Int) =>
                                letK (andI IntKind.u64 y.fst (2251799813685247 : Int)) fun (v : Int) =>
                                  guardB (decide ((0 : Int) ≤ x.snd.fst) && decide (x.snd.fst < (5 : Int)))
                                    (letK (updA x.snd.snd.snd.snd.snd.fst x.snd.fst.toNat v) fun (v : Nat → Int) =>
                                      guardB (decide ((0 : Int) ≤ x.snd.fst) && decide (x.snd.fst < (5 : Int)))
                                        (letK (x.snd.snd.snd.fst x.snd.fst.toNat) fun (v_3 : Int) =>
                                          letK (IntKind.u64.wrap (v_3 + y.snd)) fun (v_4 : Int) =>
                                            letK (shlI IntKind.u64 v_4 (13 : Int)) fun (v_5 : Int) =>
                                              letK (shrI IntKind.u64 y.fst (51 : Int)) fun (v_6 : Int) =>
                                                letK (orI IntKind.u64 v_5 v_6) fun (v_7 : Int) =>
                                                  letK (IntKind.i64.wrap (x.snd.fst + (1 : Int))) fun (v_8 : Int) =>
                                                    self (v_7, v_8, x.snd.snd.fst, x.snd.snd.snd.fst, x.snd.snd.snd.snd.fst, v, ())))))
                          (letK (x.snd.snd.snd.snd.snd.fst (0 : Nat)) fun (v : Int) =>
                            letK (andI IntKind.u64 x.fst (2251799813685247 : Int)) fun (v_3 : Int) =>
                              letK (IntKind.u64.wrap ((19 : Int) * v_3)) fun (v_4 : Int) =>
                                letK (IntKind.u64.wrap (v + v_4)) fun (v : Int) =>
                                  letK (updA x.snd.snd.snd.snd.snd.fst (0 : Nat) v) fun (v : Nat → Int) =>
                                    letK (v (1 : Nat)) fun (v_5 : Int) =>
                                      letK (shrI IntKind.u64 x.fst (51 : Int)) fun (v_6 : Int) =>
                                        letK (IntKind.u64.wrap ((19 : Int) * v_6)) fun (v_7 : Int) =>
                                          letK (IntKind.u64.wrap (v_5 + v_7)) fun (v_8 : Int) =>
                                            letK (updA v (1 : Nat) v_8) fun (v : Nat → Int) => bindK (g_field_least v) fun (y : Nat → Int) => some y))
                    fuel ((0 : Int), (0 : Int), x.snd.snd.snd.fst, x.snd.snd.snd.snd.fst, x.snd.snd.snd.snd.snd.fst, v, ())))
          fuel (a.fst, (0 : Int), a.snd, v, v_1, v_2, ())
noncomputable def F_field_Add :=
fun (g_field_least : (Nat → Int) → Option (Nat → Int)) (a : List (Nat → Int)) =>
  letK (fun (x : Nat) => (0 : Int)) fun (v : Nat → Int) =>
    letK (fun (x : Nat) => (0 : Int)) fun (v_1 : Nat → Int) =>
      letK (↑a.length : Int) fun (v_2 : Int) =>
        loopN
          (fun (self : Int × Int × (Nat → Int) × (Nat → Int) × List (Nat → Int) × Unit → Option (Nat → Int))
              (x : Int × Int × (Nat → Int) × (Nat → Int) × List (Nat → Int) × Unit) =>
            letK (decide (x.snd.fst < x.fst)) fun (v : Bool) =>
              sel v
                (guardB (decide ((0 : Int) ≤ x.snd.fst) && decide (x.snd.fst < (↑x.snd.snd.snd.snd.fst.length : Int)))
                  (guardB (decide (x.snd.fst.toNat < x.snd.snd.snd.snd.fst.length))
                    (letK (x.snd.snd.snd.snd.fst.getD x.snd.fst.toNat fun (x : Nat) => (0 : Int)) fun (v : Nat → Int) =>
                      letK (fun (x : Nat) => (0 : Int)) fun (v_3 : Nat → Int) =>
                        loopN
                          (fun (self_1 : Int × Int × Int × (Nat → Int) × (Nat → Int) × (Nat → Int) × List (Nat → Int) × Unit → Option (Nat → Int))
                              (x : Int × Int × Int × (Nat → Int) × (Nat → Int) × (Nat → Int) × List (Nat → Int) × Unit) =>
                            letK (decide (x.snd.snd.fst < (5 : Int))) fun (v : Bool) =>
                              sel v
                                (guardB (decide ((0 : Int) ≤ x.snd.snd.fst) && decide (x.snd.snd.fst < (5 : Int)))
                                  (letK (x.snd.snd.snd.snd.fst x.snd.snd.fst.toNat) fun (v : Int) =>
                                    guardB (decide ((0 : Int) ≤ x.snd.snd.fst) && decide (x.snd.snd.fst < (5 : Int)))
                                      (letK (x.snd.snd.snd.snd.snd.fst x.snd.snd.fst.toNat) fun (v_4 : Int) =>
                                        letK (IntKind.u64.wrap (v + v_4)) fun (v : Int) =>
                                          guardB (decide ((0 : Int) ≤ x.snd.snd.fst) && decide (x.snd.snd.fst < (5 : Int)))
                                            (letK (updA x.snd.snd.snd.snd.fst x.snd.snd.fst.toNat v) fun (v : Nat → Int) =>
                                              letK (IntKind.i64.wrap (x.snd.snd.fst + (1 : Int))) fun (v_5 : Int) =>
                                                self_1
                                                  (x.fst, x.snd.fst, v_5, x.snd.snd.snd.fst, v, x.snd.snd.snd.snd.snd.fst, x.snd.snd.snd.snd.snd.snd.fst,
                                                    ())))))
                                (bindK (g_field_least x.snd.snd.snd.snd.fst) fun (y : Nat → Int) =>
                                  letK (IntKind.i64.wrap (x.snd.fst + (1 : Int))) fun (v : Int) =>
                                    self (x.fst, v, x.snd.snd.snd.fst, y, x.snd.snd.snd.snd.snd.snd.fst, ())))
                          fuel (x.fst, x.snd.fst, (0 : Int), x.snd.snd.fst, x.snd.snd.snd.fst, v, x.snd.snd.snd.snd.fst, ()))))
                (some x.snd.snd.snd.fst))
          fuel (v_2, (0 : Int), v, v_1, a, ())
noncomputable def F_field_Mul :=
fun (g_field_Num : Int → Option (Nat → Int)) (g_field_times : (Nat → Int) × (Nat → Int) → Option (Nat → Int)) (a : List (Nat → Int)) =>
  letK (fun (x : Nat) => (0 : Int)) fun (v : Nat → Int) =>
    bindK (g_field_Num (1 : Int)) fun (y : Nat → Int) =>
      letK (fun (x : Nat) => (0 : Int)) fun (v_1 : Nat → Int) =>
        letK (↑a.length : Int) fun (v_2 : Int) =>
          loopN
            (fun (self : Int × Int × (Nat → Int) × (Nat → Int) × List (Nat → Int) × Unit → Option (Nat → Int))
                (x : Int × Int × (Nat → Int) × (Nat → Int) × List (Nat → Int) × Unit) =>
              letK (decide (x.snd.fst < x.fst)) fun (v : Bool) =>
                sel v
                  (guardB (decide ((0 : Int) ≤ x.snd.fst) && decide (x.snd.fst < (↑x.snd.snd.snd.snd.fst.length : Int)))
                    (guardB (decide (x.snd.fst.toNat < x.snd.snd.snd.snd.fst.length))
                      (letK (x.snd.snd.snd.snd.fst.getD x.snd.fst.toNat fun (x : Nat) => (0 : Int)) fun (v : Nat → Int) =>
                        letK (fun (x : Nat) => (0 : Int)) fun (v_3 : Nat → Int) =>
                          bindK (g_field_times (x.snd.snd.snd.fst, v)) fun (y : Nat → Int) =>
                            letK (IntKind.i64.wrap (x.snd.fst + (1 : Int))) fun (v : Int) => self (x.fst, v, x.snd.snd.fst, y, x.snd.snd.snd.snd.fst, ()))))
                  (some x.snd.snd.snd.fst))
            fuel (v_2, (0 : Int), v, y, a, ())
noncomputable def F_field_Inv :=
fun (g_field_Num : Int → Option (Nat → Int)) (g_field_times : (Nat → Int) × (Nat → Int) → Option (Nat → Int)) (a : Nat → Int) =>
  letK (fun (x : Nat) => (0 : Int)) fun (v : Nat → Int) =>
    bindK (g_field_Num (1 : Int)) fun (y : Nat → Int) =>
      letK (fun (x : Nat) => (0 : Int)) fun (v_1 : Nat → Int) =>
        loopN
          (fun (self : Int × (Nat → Int) × (Nat → Int) × (Nat → Int) × Unit → Option (Nat → Int)) (x : Int × (Nat → Int) × (Nat → Int) × (Nat → Int) × Unit) =>
            letK (decide (x.fst ≥ (0 : Int))) fun (v : Bool) =>
              sel v
                (bindK (g_field_times (x.snd.snd.snd.fst, x.snd.snd.snd.fst)) fun (y : Nat → Int) =>
                  bindK (letK (x.fst != (2 : Int)) fun (v : Bool) => sel v (letK (x.fst != (4 : Int)) fun (v : Bool) => some (v, ())) (some (false, ())))
                    fun (y_1 : Bool × Unit) =>
                    sel y_1.fst
                      (bindK (g_field_times (y, x.snd.fst)) fun (y : Nat → Int) =>
                        letK (IntKind.i64.wrap (x.fst - (1 : Int))) fun (v : Int) => self (v, x.snd.fst, x.snd.snd.fst, y, ()))
                      (letK (IntKind.i64.wrap (x.fst - (1 : Int))) fun (v : Int) => self (v, x.snd.fst, x.snd.snd.fst, y, ())))
                (some x.snd.snd.snd.fst))
          fuel ((254 : Int), a, v, y, ())
noncomputable def F_field_Elem_Key :=
fun (a : Nat → Int) =>
  letK (fun (x : Nat) => (0 : Int)) fun (v : Nat → Int) =>
    letK (fun (x : Nat) => (0 : Int)) fun (v_1 : Nat → Int) =>
      letK (a (0 : Nat)) fun (v_2 : Int) =>
        letK (a (1 : Nat)) fun (v_3 : Int) =>
          letK (shlI IntKind.u64 v_3 (51 : Int)) fun (v_4 : Int) =>
            letK (orI IntKind.u64 v_2 v_4) fun (v_5 : Int) =>
              letK (updA v_1 (0 : Nat) v_5) fun (v_6 : Nat → Int) =>
                letK (a (1 : Nat)) fun (v_7 : Int) =>
                  letK (shrI IntKind.u64 v_7 (13 : Int)) fun (v_8 : Int) =>
                    letK (a (2 : Nat)) fun (v_9 : Int) =>
                      letK (shlI IntKind.u64 v_9 (38 : Int)) fun (v_10 : Int) =>
                        letK (orI IntKind.u64 v_8 v_10) fun (v_11 : Int) =>
                          letK (updA v_6 (1 : Nat) v_11) fun (v_12 : Nat → Int) =>
                            letK (a (2 : Nat)) fun (v_13 : Int) =>
                              letK (shrI IntKind.u64 v_13 (26 : Int)) fun (v_14 : Int) =>
                                letK (a (3 : Nat)) fun (v_15 : Int) =>
                                  letK (shlI IntKind.u64 v_15 (25 : Int)) fun (v_16 : Int) =>
                                    letK (orI IntKind.u64 v_14 v_16) fun (v_17 : Int) =>
                                      letK (updA v_12 (2 : Nat) v_17) fun (v_18 : Nat → Int) =>
                                        letK (a (3 : Nat)) fun (v_19 : Int) =>
                                          letK (shrI IntKind.u64 v_19 (39 : Int)) fun (v_20 : Int) =>
                                            letK (a (4 : Nat)) fun (v_21 : Int) =>
                                              letK (shlI IntKind.u64 v_21 (12 : Int)) fun (v_22 : Int) =>
                                                letK (orI IntKind.u64 v_20 v_22) fun (v_23 : Int) =>
                                                  letK (updA v_18 (3 : Nat) v_23) fun (v_24 : Nat → Int) =>
                                                    letK (fun (x : Nat) => (0 : Int)) fun (v_25 : Nat → Int) =>
                                                      loopN
                                                        (fun (self : Int × (Nat → Int) × (Nat → Int) × (Nat → Int) × Unit → Option (Nat → Int))
                                                            (x : Int × (Nat → Int) × (Nat → Int) × (Nat → Int) × Unit) =>
                                                          letK (decide (x.fst < (32 : Int))) fun (v : Bool) =>
                                                            sel v
                                                              (letK (IntKind.i64.wrap (x.fst.tdiv (8 : Int))) fun (v : Int) =>
                                                                guardB (decide ((0 : Int) ≤ v) && decide (v < (4 : Int)))
                                                                  (letK (x.snd.snd.fst v.toNat) fun (v : Int) =>
                                                                    letK (x.fst.tmod (8 : Int)) fun (v_26 : Int) =>
                                                                      letK (IntKind.i64.wrap ((8 : Int) * v_26)) fun (v_27 : Int) =>
                                                                        guardB (decide ((0 : Int) ≤ v_27))
                                                                          (letK (shrI IntKind.u64 v v_27) fun (v : Int) =>
                                                                            letK (IntKind.u8.wrap v) fun (v : Int) =>
                                                                              guardB (decide ((0 : Int) ≤ x.fst) && decide (x.fst < (32 : Int)))
                                                                                (letK (updA x.snd.snd.snd.fst x.fst.toNat v) fun (v : Nat → Int) =>
                                                                                  letK (IntKind.i64.wrap (x.fst + (1 : Int))) fun (v_28 : Int) =>
                                                                                    self (v_28, x.snd.fst, x.snd.snd.fst, v, ())))))
                                                              (some x.snd.snd.snd.fst))
                                                        fuel ((0 : Int), v, v_24, v_25, ())
noncomputable def F_field_Same :=
fun (a : (Nat → Int) × (Nat → Int)) => letK (eqA (5 : Nat) a.fst a.snd) fun (v : Bool) => some v
noncomputable def F_field_Pick :=
fun (a : Int × (Nat → Int) × (Nat → Int)) =>
  letK (fun (x : Nat) => (0 : Int)) fun (v : Nat → Int) => letK (a.fst == (1 : Int)) fun (v : Bool) => sel v (some a.snd.snd) (some a.snd.fst)
noncomputable def F_math_bits_Mul64 :=
fun (a : Int × Int) =>
  letK (andI IntKind.u64 a.fst (4294967295 : Int)) fun (v : Int) =>
    letK (shrI IntKind.u64 a.fst (32 : Int)) fun (v_1 : Int) =>
      letK (andI IntKind.u64 a.snd (4294967295 : Int)) fun (v_2 : Int) =>
        letK (shrI IntKind.u64 a.snd (32 : Int)) fun (v_3 : Int) =>
          letK (IntKind.u64.wrap (v * v_2)) fun (v_4 : Int) =>
            letK (IntKind.u64.wrap (v_1 * v_2)) fun (v_5 : Int) =>
              letK (shrI IntKind.u64 v_4 (32 : Int)) fun (v_6 : Int) =>
                letK (IntKind.u64.wrap (v_5 + v_6)) fun (v_7 : Int) =>
                  letK (andI IntKind.u64 v_7 (4294967295 : Int)) fun (v_8 : Int) =>
                    letK (shrI IntKind.u64 v_7 (32 : Int)) fun (v_9 : Int) =>
                      letK (IntKind.u64.wrap (v * v_3)) fun (v : Int) =>
                        letK (IntKind.u64.wrap (v_8 + v)) fun (v : Int) =>
                          letK (IntKind.u64.wrap (v_1 * v_3)) fun (v_10 : Int) =>
                            letK (IntKind.u64.wrap (v_10 + v_9)) fun (v_11 : Int) =>
                              letK (shrI IntKind.u64 v (32 : Int)) fun (v : Int) =>
                                letK (IntKind.u64.wrap (v_11 + v)) fun (v : Int) => letK (IntKind.u64.wrap (a.fst * a.snd)) fun (v_12 : Int) => some (v, v_12)

/-! ### The program's field -/

abbrev p25519 : Int := 57896044618658097711785492504343953926634992332820282019728792003956564819949
abbrev B51 : Int := 2251799813685248

/-- Five limbs. -/
def Lim (l : Nat → Int) (M : Int) : Prop := ∀ i, i < 5 → 0 ≤ l i ∧ l i ≤ M

theorem and51 {x : Int} (h0 : 0 ≤ x) (h1 : x < 18446744073709551616) : andI .u64 x 2251799813685247 = x % B51 := andI_u64 51 (by decide) (by decide) h0 h1
theorem shr51 (x : Int) : shrI .u64 x 51 = x / B51 := shrI_div .u64 x 51 (by decide)

theorem two_guard {a n : Int} (h0 : 0 ≤ a) (h1 : a < n) : (decide (0 ≤ a) && decide (a < n)) = true := by simp [h0, h1]

/-- After a pass: limbs below the base but the lowest. -/
structure Pass (l : Nat → Int) (r : Nat → Int) (M : Int) : Prop where
  r0 : 0 ≤ r 0 ∧ r 0 < B51 + M
  ri : ∀ i, 1 ≤ i → i < 5 → 0 ≤ r i ∧ r i < B51
  sum : ∃ c, 0 ≤ c ∧ 19 * c ≤ M ∧ val B51 5 r = val B51 5 l - c * p25519 ∧ (c = 0 → ∀ i, i < 5 → r i < B51)
  small : ∃ c, 0 ≤ c ∧ c * B51 ^ 5 ≤ val B51 5 l ∧ val B51 5 l < (c + 1) * B51 ^ 5 ∧ val B51 5 r = val B51 5 l - c * p25519

theorem val5 (B : Int) (l : Nat → Int) : val B 5 l = l 0 + l 1 * B + l 2 * B ^ 2 + l 3 * B ^ 3 + l 4 * B ^ 4 := by simp [val, Int.pow_succ]

theorem val5n (l : Nat → Int) : val B51 5 l = l 0 + l 1 * 2251799813685248 + l 2 * 5070602400912917605986812821504 + l 3 * 11417981541647679048466287755595961091061972992 + l 4 * 25711008708143844408671393477458601640355247900524685364822016 := val5 B51 l

theorem pass_end {l1 l : Nat → Int} {c M : Int} (h : CarryI B51 5 l1 0 M 5 c l) : Pass l1 (updA l 0 (l 0 + 19 * c)) (19 * M) := by
  have h0 := h.low 0 (by omega)
  have hc := h.cm
  have hs := h.sum
  have hv := val_lt (B := B51) (by decide) h.low
  have hu : val B51 5 (updA l 0 (l 0 + 19 * c)) = val B51 5 l + 19 * c := by rw [val_upd (by omega)]; simp; omega
  have hp : B51 ^ 5 = p25519 + 19 := by decide
  refine ⟨?_, fun i h1 h5 => ?_, ⟨c, hc.1, by omega, ?_, fun e i hi => ?_⟩, ⟨c, hc.1, ?_, ?_, ?_⟩⟩
  · rw [updA_self]; omega
  · rw [updA_ne _ _ (by omega)]; exact h.low i h5
  · rw [hu]; rw [hp, Int.mul_add] at hs; omega
  · subst e
    by_cases e0 : i = 0
    · subst e0; rw [updA_self]; omega
    · rw [updA_ne _ _ e0]; exact (h.low i hi).2
  · omega
  · rw [Int.add_mul]; omega
  · rw [hu]; rw [hp, Int.mul_add] at hs; omega

theorem field_carried_ret {l : Nat → Int} (hl : Lim l 9223372036854775808) : Ret (F_field_carried l) fun r => ∃ l1, Pass l l1 155648 ∧ Pass l1 r 19 := by
  unfold F_field_carried
  refine ret_let ?_
  refine ret_loop (fun x => ∃ k : Nat, x.1 = k ∧ k ≤ 2 ∧ (k = 0 → x.2.1 = l) ∧ (k = 1 → Pass l x.2.1 155648) ∧ (k = 2 → ∃ l1, Pass l l1 155648 ∧ Pass l1 x.2.1 19)) (fun x => 2 - x.1.toNat) ⟨0, rfl, by omega, fun _ => rfl, fun h => by omega, fun h => by omega⟩ (by simp) ?_
  rintro self ⟨i, l1, d, ⟨⟩⟩ ⟨k, hi, hk, h0, h1, h2⟩ ih
  dsimp only at hi h0 h1 h2 ih ⊢
  subst hi
  refine ret_let (ret_sel (fun hlt => ?_) (fun hge => ?_))
  · have hlt : k < 2 := by have := of_decide_eq_true hlt; omega
    obtain ⟨M, hM0, hM, hMk⟩ : ∃ M : Int, (0 ≤ M ∧ M ≤ 8192) ∧ (∀ j, j < 5 → 0 ≤ l1 j ∧ l1 j ≤ 9223372036854775808 ∧ (l1 j + M) / B51 ≤ M) ∧ (k = 0 → M = 8192) ∧ (k = 1 → M = 1) := by
      by_cases e : k = 0
      · refine ⟨8192, by omega, fun j hj => ?_, fun _ => rfl, fun h => by omega⟩
        rw [h0 e]
        have := hl j hj
        exact ⟨this.1, this.2, by unfold B51; omega⟩
      · refine ⟨1, by omega, fun j hj => ?_, fun h => by omega, fun _ => rfl⟩
        have hp := h1 (by omega)
        have := hp.r0
        by_cases ej : j = 0
        · subst ej; unfold B51 at *; omega
        · have := hp.ri j (by omega) hj; unfold B51 at *; omega
    refine ret_loop (fun x => ∃ j : Nat, x.2.2.1 = j ∧ x.2.1 = k ∧ CarryI B51 5 l1 0 M j x.1 x.2.2.2.1) (fun x => 5 - x.2.2.1.toNat) ⟨0, rfl, rfl, CarryI.start (by omega)⟩ (by simp) ?_
    rintro self' ⟨c, i', j', r, d', d'', ⟨⟩⟩ ⟨j, hj, hi', hI⟩ ih'
    dsimp only at hj hi' hI ih' ⊢
    subst hj hi'
    refine ret_let (ret_sel (fun hlt' => ?_) (fun hge' => ?_))
    · have hlt' : j < 5 := by have := of_decide_eq_true hlt'; omega
      have hg := two_guard (a := (j : Int)) (n := 5) (by omega) (by omega)
      have hr := hI.high j (Nat.le_refl _)
      have hb := hM j hlt'
      have hc := hI.cm
      have e1 : IntKind.u64.wrap (r j + c) = r j + c := wrap_u64_id (by omega) (by omega)
      have e2 : IntKind.i64.wrap ((j : Int) + 1) = ((j + 1 : Nat) : Int) := by rw [wrap_i64 (by omega) (by omega)]; simp
      refine ret_guard hg (ret_let (ret_let (ret_guard hg (ret_let (ret_guard hg (ret_let (ret_let (ret_guard hg (ret_let (ret_let (ret_guard hg (ret_let (ret_let ?_)))))))))))))
      simp only [Int.toNat_natCast, updA_self, e1, e2, updA_upd, shr51, and51 (x := r j + c) (by omega) (by omega)]
      exact ih' _ ⟨j + 1, rfl, rfl, hI.step (by decide) hlt' ⟨hb.1, hb.2.2⟩⟩ (by simp; omega)
    · have hj5 : j = 5 := by have := hI.jn; simp at hge'; omega
      subst hj5
      have hp := pass_end hI
      have hc := hI.cm
      have h0' := hI.low 0 (by omega)
      have e1 : IntKind.u64.wrap (19 * c) = 19 * c := wrap_u64_id (by omega) (by omega)
      have e2 : IntKind.u64.wrap (r 0 + 19 * c) = r 0 + 19 * c := wrap_u64_id (by omega) (by unfold B51 at h0'; omega)
      have e3 : IntKind.i64.wrap ((k : Int) + 1) = ((k + 1 : Nat) : Int) := by rw [wrap_i64 (by omega) (by omega)]; simp
      refine ret_let (ret_let (ret_let (ret_let (ret_let ?_))))
      simp only [e1, e2, e3]
      refine ih _ ⟨k + 1, rfl, by omega, fun h => by omega, fun h => ?_, fun h => ?_⟩ (by simp; omega)
      · have ek : k = 0 := by omega
        rw [hMk.1 ek, h0 ek] at hp
        exact hp
      · have ek : k = 1 := by omega
        rw [hMk.2 ek] at hp
        exact ⟨l1, h1 ek, hp⟩
  · have ek : k = 2 := by simp at hge; omega
    exact ret_some (h2 ek)

/-- A number of the field. -/
structure FE (r : Nat → Int) (n : Int) : Prop where
  dig : ∀ i, i < 5 → 0 ≤ r i ∧ r i < B51
  val : val B51 5 r = n
  lt : n < p25519

theorem FE.nonneg {r : Nat → Int} {n : Int} (h : FE r n) : 0 ≤ n := by rw [← h.val]; exact (val_lt (by decide) h.dig).1

theorem pass_lt {l l1 r : Nat → Int} {M : Int} (hM : M ≤ 155648) (h : Pass l l1 M) (h' : Pass l1 r 19) : val B51 5 r < B51 ^ 5 ∧ 0 ≤ val B51 5 r := by
  obtain ⟨c, c0, c1, c2, c3⟩ := h'.small
  have e5 : B51 ^ 5 = 57896044618658097711785492504343953926634992332820282019728792003956564819968 := by decide
  have a0 := h.r0
  have a1 := h.ri 1 (by omega) (by omega)
  have a2 := h.ri 2 (by omega) (by omega)
  have a3 := h.ri 3 (by omega) (by omega)
  have a4 := h.ri 4 (by omega) (by omega)
  have hv := val5n l1
  have hc : c ≤ 1 := by
    rw [e5] at c1
    unfold B51 at *
    omega
  have hc' : c = 0 ∨ c = 1 := by omega
  rw [e5] at c1 c2 ⊢
  rcases hc' with rfl | rfl
  · unfold B51 p25519 at *; omega
  · unfold B51 p25519 at *; omega

theorem div_step {A y P B : Int} (hP : 0 < P) (hB : 0 < B) : (y + A / P) / B = (A + y * P) / (P * B) := by
  rw [← Int.ediv_ediv_of_nonneg (by omega), Int.add_mul_ediv_right _ _ (by omega), Int.add_comm]

theorem pass_dig {l l1 r : Nat → Int} {M : Int} (h' : Pass l1 r 19) : ∀ i, i < 5 → 0 ≤ r i ∧ r i < B51 + 19 := fun i hi => by
  by_cases e : i = 0
  · subst e; exact h'.r0
  · have := h'.ri i (by omega) hi; unfold B51 at *; omega

theorem field_least_ret {l : Nat → Int} (hl : Lim l 9223372036854775808) : Ret (F_field_least F_field_carried l) fun r => FE r (val B51 5 l % p25519) := by
  unfold F_field_least
  refine ret_let (ret_bind (field_carried_ret hl) ?_)
  rintro y ⟨l1, hp1, hp2⟩
  obtain ⟨hlt, hnn⟩ := pass_lt (by omega) hp1 hp2
  have hdig := pass_dig (l := l) (M := 0) hp2
  have hmod : val B51 5 y % p25519 = val B51 5 l % p25519 := by
    obtain ⟨c, _, _, e, _⟩ := hp2.sum
    obtain ⟨c', _, _, e', _⟩ := hp1.sum
    rw [e, e', Int.sub_mul_emod_self_right, Int.sub_mul_emod_self_right]
  rw [← hmod]
  clear hmod hp1 hp2
  refine ret_loop (fun x => ∃ j : Nat, x.2.2.1 = j ∧ j ≤ 5 ∧ x.2.1 = y ∧ x.2.2.2.1 = y ∧ x.1 = (val B51 j y + 19) / B51 ^ j ∧ 0 ≤ x.1 ∧ x.1 ≤ 19) (fun x => 5 - x.2.2.1.toNat) ⟨0, rfl, by omega, rfl, rfl, by simp [val], by simp, by simp⟩ (by simp) ?_
  rintro self ⟨c, l', j', y', d, ⟨⟩⟩ ⟨j, hj, hj5, hl', hy', hc, hc0, hc1⟩ ih
  dsimp only at hj hl' hy' hc hc0 hc1 ih ⊢
  subst hj; subst hy'; subst hl'
  refine ret_let (ret_sel (fun hlt' => ?_) (fun hge => ?_))
  · have hlt' : j < 5 := by have := of_decide_eq_true hlt'; omega
    have hg := two_guard (a := (j : Int)) (n := 5) (by omega) (by omega)
    have hb := hdig j hlt'
    have e1 : IntKind.u64.wrap (l' j + c) = l' j + c := wrap_u64_id (by omega) (by unfold B51 at hb; omega)
    have e2 : IntKind.i64.wrap ((j : Int) + 1) = ((j + 1 : Nat) : Int) := by rw [wrap_i64 (by omega) (by omega)]; simp
    refine ret_guard hg (ret_let (ret_let (ret_let (ret_let ?_))))
    simp only [Int.toNat_natCast, e1, e2, shr51]
    refine ih _ ⟨j + 1, rfl, by omega, rfl, rfl, ?_, ?_, ?_⟩ (by simp; omega)
    · dsimp only
      rw [hc, div_step (Int.pow_pos (by decide)) (by decide), ← Int.pow_succ]
      simp only [val]
      congr 1
      omega
    · dsimp only; unfold B51 at *; omega
    · dsimp only; unfold B51 at *; omega
  · have hj5 : j = 5 := by simp at hge; omega
    subst hj5
    clear ih
    have e5 : B51 ^ 5 = 57896044618658097711785492504343953926634992332820282019728792003956564819968 := by decide
    have hcv : (c = 0 ∧ val B51 5 l' < p25519) ∨ (c = 1 ∧ p25519 ≤ val B51 5 l') := by rw [e5] at hc hlt; unfold p25519; omega
    have hb0 := hdig 0 (by omega)
    have e1 : IntKind.u64.wrap (19 * c) = 19 * c := wrap_u64_id (by omega) (by omega)
    have e2 : IntKind.u64.wrap (l' 0 + 19 * c) = l' 0 + 19 * c := wrap_u64_id (by omega) (by unfold B51 at hb0; omega)
    refine ret_let (ret_let (ret_let (ret_let ?_)))
    simp only [e1, e2]
    generalize hl2 : updA l' 0 (l' 0 + 19 * c) = l2
    have hv2 : val B51 5 l2 = val B51 5 l' + 19 * c := by rw [← hl2, val_upd (by omega)]; simp; omega
    have hb2 : ∀ i, i < 5 → 0 ≤ l2 i ∧ l2 i < B51 + 38 := fun i hi => by
      rw [← hl2]
      by_cases e : i = 0
      · subst e; rw [updA_self]; omega
      · rw [updA_ne _ _ e]; have := hdig i hi; omega
    refine ret_loop (fun x => ∃ j : Nat, x.2.1 = j ∧ CarryI B51 5 l2 0 1 j x.1 x.2.2.1) (fun x => 5 - x.2.1.toNat) ⟨0, rfl, CarryI.start (by omega)⟩ (by simp) ?_
    rintro self' ⟨c', j', r, d', ⟨⟩⟩ ⟨j, hj, hI⟩ ih'
    dsimp only at hj hI ih' ⊢
    subst hj
    refine ret_let (ret_sel (fun hlt' => ?_) (fun hge' => ?_))
    · have hlt' : j < 5 := by have := of_decide_eq_true hlt'; omega
      have hg := two_guard (a := (j : Int)) (n := 5) (by omega) (by omega)
      have hr := hI.high j (Nat.le_refl _)
      have hb := hb2 j hlt'
      have hc' := hI.cm
      have e1 : IntKind.u64.wrap (r j + c') = r j + c' := wrap_u64_id (by omega) (by unfold B51 at hb; omega)
      have e2 : IntKind.i64.wrap ((j : Int) + 1) = ((j + 1 : Nat) : Int) := by rw [wrap_i64 (by omega) (by omega)]; simp
      refine ret_guard hg (ret_let (ret_let (ret_guard hg (ret_let (ret_guard hg (ret_let (ret_let (ret_guard hg (ret_let (ret_let (ret_guard hg (ret_let (ret_let ?_)))))))))))))
      simp only [Int.toNat_natCast, updA_self, e1, e2, updA_upd, shr51, and51 (x := r j + c') (by omega) (by unfold B51 at hb; omega)]
      exact ih' _ ⟨j + 1, rfl, hI.step (by decide) hlt' ⟨hb.1, by unfold B51 at *; omega⟩⟩ (by simp; omega)
    · have hj5 : j = 5 := by have := hI.jn; simp at hge'; omega
      subst hj5
      refine ret_some ?_
      have hs := hI.sum
      have hvl := val_lt (B := B51) (by decide) hI.low
      have hcm := hI.cm
      rw [hv2] at hs
      have hm : val B51 5 r = val B51 5 l' % p25519 := by
        rw [e5] at hs hvl hlt
        rcases hcv with ⟨rfl, hcv⟩ | ⟨rfl, hcv⟩ <;> unfold p25519 at * <;> omega
      exact ⟨hI.low, hm, by rw [← hm, hm]; exact Int.emod_lt_of_pos _ (by decide)⟩


def IsBytes (n : Nat) (a : Nat → Int) : Prop := ∀ i, i < n → 0 ≤ a i ∧ a i < 256

/-- The words of bytes, of which k were read. -/
def Words (a : Nat → Int) (k : Nat) (w : Nat → Int) : Prop := ∀ j, j < 4 → w j = val 256 (min 8 (k - 8 * j)) (fun t => a (8 * j + t))

theorem Words.step {a : Nat → Int} {k : Nat} {w : Nat → Int} (ha : IsBytes 32 a) (h : Words a k w) (hk : k < 32) :
    orI .u64 (w (k / 8)) (shlI .u64 (a k) ((8 * (k % 8) : Nat) : Int)) = val 256 (k % 8 + 1) (fun t => a (8 * (k / 8) + t)) ∧ Words a (k + 1) (updA w (k / 8) (val 256 (k % 8 + 1) (fun t => a (8 * (k / 8) + t)))) := by
  have hj : k / 8 < 4 := by omega
  have e := h (k / 8) hj
  have hm : min 8 (k - 8 * (k / 8)) = k % 8 := by omega
  rw [hm] at e
  have hd : 8 * (k / 8) + k % 8 = k := by omega
  constructor
  · have hv := val_lt (B := 256) (n := k % 8) (f := fun t => a (8 * (k / 8) + t)) (by decide) fun i hi => ha _ (by omega)
    have hb := ha k hk
    rw [e, or_byte .u64 rfl (by simp only [IntKind.bits]; omega) hv.1 hv.2 hb.1 hb.2]
    simp only [val, hd]
  · intro j hj4
    by_cases ej : j = k / 8
    · subst ej
      rw [updA_self]
      have : min 8 (k + 1 - 8 * (k / 8)) = k % 8 + 1 := by omega
      rw [this]
    · rw [updA_ne _ _ ej, h j hj4]
      have : min 8 (k + 1 - 8 * j) = min 8 (k - 8 * j) := by omega
      rw [this]

theorem Words.all {a w : Nat → Int} (ha : IsBytes 32 a) (h : Words a 32 w) : (∀ j, j < 4 → 0 ≤ w j ∧ w j < 18446744073709551616) ∧ val 256 32 a = w 0 + w 1 * 18446744073709551616 + w 2 * 340282366920938463463374607431768211456 + w 3 * 6277101735386680763835789423207666416102355444464034512896 := by
  have e : ∀ j, j < 4 → w j = val 256 8 (fun t => a (8 * j + t)) := fun j hj => by rw [h j hj, show min 8 (32 - 8 * j) = 8 by omega]
  refine ⟨fun j hj => ?_, ?_⟩
  · rw [e j hj]
    exact val_lt (B := 256) (n := 8) (by decide) fun i hi => ha _ (by omega)
  · have s3 := val_add (B := 256) 24 a 8
    have s2 := val_add (B := 256) 16 a 8
    have s1 := val_add (B := 256) 8 a 8
    have e0 := e 0 (by omega); have e1 := e 1 (by omega); have e2 := e 2 (by omega); have e3 := e 3 (by omega)
    simp only [Nat.mul_zero, Nat.zero_add, Nat.mul_one] at e0 e1
    rw [show 24 + 8 = 32 from rfl] at s3
    rw [show 16 + 8 = 24 from rfl] at s2
    rw [show 8 + 8 = 16 from rfl] at s1
    rw [s3, s2, s1, ← e0, ← e1, ← e2, ← e3]
    have p1 : (256 : Int) ^ 8 = 18446744073709551616 := by decide
    have p2 : (256 : Int) ^ 16 = 340282366920938463463374607431768211456 := by decide
    have p3 : (256 : Int) ^ 24 = 6277101735386680763835789423207666416102355444464034512896 := by decide
    rw [p1, p2, p3]; omega

theorem tdiv8 (k : Nat) : (k : Int).tdiv 8 = ((k / 8 : Nat) : Int) := rfl
theorem tmod8 (k : Nat) : (k : Int).tmod 8 = ((k % 8 : Nat) : Int) := rfl

theorem shl64 (x : Int) (n : Nat) (hn : n ≤ 64) : shlI .u64 x n = x * 2 ^ n % 18446744073709551616 := by rw [shlI_mul .u64 x n hn, wrap_u64]
theorem shr64 (x : Int) (n : Nat) (hn : n ≤ 64) : shrI .u64 x n = x / 2 ^ n := shrI_div .u64 x n hn

/-- A limb out of two words: the upper bits of one, the lower ones of the other. -/
theorem limb2 {x y : Int} (m n : Nat) (hm : m + n = 64) (hn : n ≤ 51) (hx0 : 0 ≤ x) (hx : x < 18446744073709551616) (hy0 : 0 ≤ y) (hy : y < 18446744073709551616) (hm51 : 13 ≤ n) :
    andI .u64 (orI .u64 (shrI .u64 x m) (shlI .u64 y n)) 2251799813685247 = x / 2 ^ m + 2 ^ n * (y % 2 ^ (51 - n)) := by
  have hpn : (0 : Int) < 2 ^ n := Int.pow_pos (by decide)
  have hpm : (0 : Int) < 2 ^ m := Int.pow_pos (by decide)
  have hmn : (2 : Int) ^ m * 2 ^ n = 18446744073709551616 := by rw [← Int.pow_add, hm]; rfl
  have h51 : (2 : Int) ^ n * 2 ^ (51 - n) = B51 := by rw [← Int.pow_add, show n + (51 - n) = 51 by omega]; rfl
  have hxm : x / 2 ^ m < 2 ^ n := by
    rw [Int.ediv_lt_iff_lt_mul hpm, Int.mul_comm, hmn]; exact hx
  have hx0' : 0 ≤ x / 2 ^ m := Int.ediv_nonneg hx0 (by omega)
  have hs : y * 2 ^ n % 18446744073709551616 = 2 ^ n * (y % 2 ^ m) := by rw [← hmn, Int.mul_comm y, Int.mul_comm (2 ^ m)]; exact Int.mul_emod_mul_of_pos _ _ hpn
  have hy0' := Int.emod_nonneg y (show (2 : Int) ^ m ≠ 0 by omega)
  have hym := Int.emod_lt_of_pos y hpm
  have hb : 2 ^ n * (y % 2 ^ m) < 18446744073709551616 := by rw [← hmn, Int.mul_comm]; exact Int.mul_lt_mul_of_pos_right hym hpn
  have hb0 : 0 ≤ 2 ^ n * (y % 2 ^ m) := Int.mul_nonneg (by omega) hy0'
  rw [shr64 _ _ (by omega), shl64 _ _ (by omega), hs, orI_comm, orI_add .u64 rfl n (by simp only [IntKind.bits]; omega) (Int.mul_emod_right _ _) hb0 hb hx0' hxm]
  have hsum : 2 ^ n * (y % 2 ^ m) + x / 2 ^ m < 18446744073709551616 := by
    have h1 : 2 ^ n * (y % 2 ^ m) ≤ 2 ^ n * (2 ^ m - 1) := Int.mul_le_mul_of_nonneg_left (by omega) (by omega)
    have h2 : (2 : Int) ^ n * (2 ^ m - 1) = 18446744073709551616 - 2 ^ n := by rw [Int.mul_sub, Int.mul_comm, hmn, Int.mul_one]
    omega
  rw [and51 (by omega) hsum, ← h51]
  have hyy : y % 2 ^ m % 2 ^ (51 - n) = y % 2 ^ (51 - n) := by
    have : (2 : Int) ^ m = 2 ^ (51 - n) * 2 ^ (m - (51 - n)) := by rw [← Int.pow_add, show 51 - n + (m - (51 - n)) = m by omega]
    rw [this]; exact Int.emod_emod_of_dvd _ (Int.dvd_mul_right _ _)
  have hr : (2 ^ n * (y % 2 ^ m) + x / 2 ^ m) % (2 ^ n * 2 ^ (51 - n)) = 2 ^ n * (y % 2 ^ m % 2 ^ (51 - n)) + x / 2 ^ m := by
    have hq : (0 : Int) < 2 ^ (51 - n) := Int.pow_pos (by decide)
    have hd := Int.emod_add_mul_ediv (y % 2 ^ m) (2 ^ (51 - n))
    have r1 := Int.emod_nonneg (y % 2 ^ m) (show (2 : Int) ^ (51 - n) ≠ 0 by omega)
    have r2 := Int.emod_lt_of_pos (y % 2 ^ m) hq
    generalize y % 2 ^ m = z at *
    generalize z / 2 ^ (51 - n) = q at *
    generalize z % 2 ^ (51 - n) = r at *
    have e1 : 2 ^ n * z + x / 2 ^ m = (2 ^ n * r + x / 2 ^ m) + (2 ^ n * 2 ^ (51 - n)) * q := by rw [← hd, Int.mul_add, Int.mul_assoc]; omega
    rw [e1, Int.add_mul_emod_self_left]
    refine Int.emod_eq_of_lt (by have := Int.mul_nonneg (show (0 : Int) ≤ 2 ^ n by omega) r1; omega) ?_
    have h1 : 2 ^ n * r ≤ 2 ^ n * (2 ^ (51 - n) - 1) := Int.mul_le_mul_of_nonneg_left (by omega) (by omega)
    rw [Int.mul_sub, Int.mul_one] at h1
    omega
  rw [hr, hyy]; omega

theorem field_Of_ret {a : Nat → Int} (ha : IsBytes 32 a) : Ret (F_field_Of (F_field_least F_field_carried) a) fun r => FE r (val 256 32 a % 57896044618658097711785492504343953926634992332820282019728792003956564819968 % p25519) := by
  unfold F_field_Of
  refine ret_let (ret_let ?_)
  refine ret_loop (fun x => ∃ k : Nat, x.2.1 = k ∧ k ≤ 32 ∧ x.1 = a ∧ Words a k x.2.2.2.1) (fun x => 32 - x.2.1.toNat) ⟨0, rfl, by omega, rfl, fun j hj => by simp [val]⟩ (by simp) ?_
  rintro self ⟨a', k', d, w, ⟨⟩⟩ ⟨k, hk, hk32, ha', hw⟩ ih
  dsimp only at hk ha' hw ih ⊢
  subst hk; subst ha'
  refine ret_let (ret_sel (fun hlt => ?_) (fun hge => ?_))
  · have hlt : k < 32 := by have := of_decide_eq_true hlt; omega
    have hg := two_guard (a := (k : Int)) (n := 32) (by omega) (by omega)
    have hg4 := two_guard (a := ((k / 8 : Nat) : Int)) (n := 4) (by omega) (by omega)
    have e1 : IntKind.i64.wrap ((k : Int).tdiv 8) = ((k / 8 : Nat) : Int) := by rw [tdiv8, wrap_i64 (by omega) (by omega)]
    have e2 : IntKind.i64.wrap (8 * (k : Int).tmod 8) = ((8 * (k % 8) : Nat) : Int) := by rw [tmod8, wrap_i64 (by omega) (by omega)]; simp
    have hb := ha k hlt
    have e3 : IntKind.u64.wrap (a' k) = a' k := wrap_u64_id hb.1 (by omega)
    have e4 : IntKind.i64.wrap ((k : Int) + 1) = ((k + 1 : Nat) : Int) := by rw [wrap_i64 (by omega) (by omega)]; simp
    obtain ⟨s1, s2⟩ := hw.step ha hlt
    refine ret_guard hg (ret_let (ret_let ?_))
    simp only [e1, Int.toNat_natCast]
    refine ret_guard hg4 (ret_let (ret_let (ret_let (ret_let ?_))))
    simp only [e2, e3]
    refine ret_guard (decide_eq_true (by omega)) (ret_let (ret_let (ret_guard hg4 (ret_let (ret_let ?_)))))
    simp only [e4]
    rw [s1]
    exact ih _ ⟨k + 1, rfl, by omega, rfl, s2⟩ (by simp; omega)
  · have ek : k = 32 := by simp at hge; omega
    subst ek
    obtain ⟨hb, hv⟩ := hw.all ha
    have b0 := hb 0 (by omega); have b1 := hb 1 (by omega); have b2 := hb 2 (by omega); have b3 := hb 3 (by omega)
    have l0 := and51 b0.1 b0.2
    have l1 := limb2 51 13 rfl (by omega) b0.1 b0.2 b1.1 b1.2 (by omega)
    have l2 := limb2 38 26 rfl (by omega) b1.1 b1.2 b2.1 b2.2 (by omega)
    have l3 := limb2 25 39 rfl (by omega) b2.1 b2.2 b3.1 b3.2 (by omega)
    have l4 : andI .u64 (shrI .u64 (w 3) 12) 2251799813685247 = w 3 / 4096 % B51 := by
      have := shr64 (w 3) 12 (by omega)
      rw [show ((12 : Nat) : Int) = 12 from rfl, show (2 : Int) ^ 12 = 4096 from rfl] at this
      rw [this, and51 (by omega) (by omega)]
    have l1' : andI .u64 (orI .u64 (shrI .u64 (w 0) 51) (shlI .u64 (w 1) 13)) 2251799813685247 = w 0 / 2 ^ 51 + 2 ^ 13 * (w 1 % 2 ^ 38) := l1
    have l2' : andI .u64 (orI .u64 (shrI .u64 (w 1) 38) (shlI .u64 (w 2) 26)) 2251799813685247 = w 1 / 2 ^ 38 + 2 ^ 26 * (w 2 % 2 ^ 25) := l2
    have l3' : andI .u64 (orI .u64 (shrI .u64 (w 2) 25) (shlI .u64 (w 3) 39)) 2251799813685247 = w 2 / 2 ^ 25 + 2 ^ 39 * (w 3 % 2 ^ 12) := l3
    clear ih hw l1 l2 l3
    repeat (with_reducible refine ret_let ?_)
    simp only [l0, l1', l2', l3', l4]
    refine ret_bind (field_least_ret ?_) ?_
    · intro i hi
      have : i = 0 ∨ i = 1 ∨ i = 2 ∨ i = 3 ∨ i = 4 := by omega
      unfold B51
      rcases this with rfl | rfl | rfl | rfl | rfl <;> simp [updA] <;> omega
    · intro y hy
      refine ret_some ?_
      have e : val B51 5 (updA (updA (updA (updA (updA (fun _ => 0) 0 (w 0 % B51)) 1 (w 0 / 2 ^ 51 + 2 ^ 13 * (w 1 % 2 ^ 38))) 2 (w 1 / 2 ^ 38 + 2 ^ 26 * (w 2 % 2 ^ 25))) 3 (w 2 / 2 ^ 25 + 2 ^ 39 * (w 3 % 2 ^ 12))) 4 (w 3 / 4096 % B51)) = val 256 32 a' % 57896044618658097711785492504343953926634992332820282019728792003956564819968 := by
        rw [val5n, hv]
        simp [updA]
        unfold B51
        omega
      rw [e] at hy
      exact hy

end Go.Sx
