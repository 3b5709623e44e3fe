/-
  The document's field, by sixteen digits: what its functions hand back.
-/
import Derived.Test.YtagooceoocohpaaSyFlg
set_option maxRecDepth 100000
set_option linter.unusedVariables false
namespace Go.Sx
noncomputable def F_billetref01_prime :=
fun (a : Int) =>
  letK (a == (0 : Int)) fun (v : Bool) => sel v (some (65517 : Int)) (letK (a == (15 : Int)) fun (v : Bool) => sel v (some (32767 : Int)) (some (65535 : Int)))
noncomputable def F_billetref01_carry :=
fun (a : Nat → Int) =>
  letK (fun (x : Nat) => (0 : Int)) fun (v : Nat → Int) =>
    loopN
      (fun (self : Int × (Nat → Int) × (Nat → Int) × Unit → Option (Nat → Int)) (x : Int × (Nat → Int) × (Nat → Int) × Unit) =>
        letK (decide (x.fst < (3 : Int))) fun (v : Bool) =>
          sel v
            (loopN
              (fun (self_1 : Int × Int × Int × (Nat → Int) × (Nat → Int) × Unit → Option (Nat → Int))
                  (x : Int × Int × Int × (Nat → Int) × (Nat → Int) × Unit) =>
                letK (decide (x.snd.snd.fst < (16 : Int))) fun (v : Bool) =>
                  sel v
                    (guardB (decide ((0 : Int) ≤ x.snd.snd.fst) && decide (x.snd.snd.fst < (16 : Int)))
                      (letK (x.snd.snd.snd.fst x.snd.snd.fst.toNat) fun (v : Int) =>
                        letK (IntKind.u64.wrap (v + x.snd.fst)) fun (v : Int) =>
                          guardB (decide ((0 : Int) ≤ x.snd.snd.fst) && decide (x.snd.snd.fst < (16 : Int)))
                            (letK (updA x.snd.snd.snd.fst x.snd.snd.fst.toNat v) fun (v : Nat → Int) =>
                              guardB (decide ((0 : Int) ≤ x.snd.snd.fst) && decide (x.snd.snd.fst < (16 : Int)))
                                (letK (v x.snd.snd.fst.toNat) fun (v_1 : Int) =>
                                  letK (shrI IntKind.u64 v_1 (16 : Int)) fun (v_2 : Int) =>
                                    guardB (decide ((0 : Int) ≤ x.snd.snd.fst) && decide (x.snd.snd.fst < (16 : Int)))
                                      (letK (v x.snd.snd.fst.toNat) fun (v_3 : Int) =>
                                        letK (andI IntKind.u64 v_3 (65535 : Int)) fun (v_4 : Int) =>
                                          guardB (decide ((0 : Int) ≤ x.snd.snd.fst) && decide (x.snd.snd.fst < (16 : Int)))
                                            (letK (updA v x.snd.snd.fst.toNat v_4) fun (v : Nat → Int) =>
                                              letK (IntKind.i64.wrap (x.snd.snd.fst + (1 : Int))) fun (v_5 : Int) =>
                                                self_1 (x.fst, v_2, v_5, v, x.snd.snd.snd.snd.fst, ())))))))
                    (letK (x.snd.snd.snd.fst (0 : Nat)) fun (v : Int) =>
                      letK (IntKind.u64.wrap ((38 : Int) * x.snd.fst)) fun (v_1 : Int) =>
                        letK (IntKind.u64.wrap (v + v_1)) fun (v : Int) =>
                          letK (updA x.snd.snd.snd.fst (0 : Nat) v) fun (v : Nat → Int) =>
                            letK (IntKind.i64.wrap (x.fst + (1 : Int))) fun (v_2 : Int) => self (v_2, v, x.snd.snd.snd.snd.fst, ())))
              fuel (x.fst, (0 : Int), (0 : Int), x.snd.fst, x.snd.snd.fst, ()))
            (some x.snd.fst))
      fuel ((0 : Int), a, v, ())
noncomputable def F_billetref01_full :=
fun (g_billetref01_carry : (Nat → Int) → Option (Nat → Int)) (g_billetref01_prime : Int → Option Int) (a : Nat → Int) =>
  letK (fun (x : Nat) => (0 : Int)) fun (v : Nat → Int) =>
    bindK (g_billetref01_carry a) fun (y : Nat → Int) =>
      loopN
        (fun (self : Int × (Nat → Int) × (Nat → Int) × Unit → Option (Nat → Int)) (x : Int × (Nat → Int) × (Nat → Int) × Unit) =>
          letK (decide (x.fst < (3 : Int))) fun (v : Bool) =>
            sel v
              (letK (fun (x : Nat) => (0 : Int)) fun (v : Nat → Int) =>
                letK (fun (x : Nat) => (0 : Int)) fun (v_1 : Nat → Int) =>
                  loopN
                    (fun (self_1 : Int × Int × Int × (Nat → Int) × (Nat → Int) × (Nat → Int) × Unit → Option (Nat → Int))
                        (x : Int × Int × Int × (Nat → Int) × (Nat → Int) × (Nat → Int) × Unit) =>
                      letK (decide (x.snd.snd.fst < (16 : Int))) fun (v : Bool) =>
                        sel v
                          (guardB (decide ((0 : Int) ≤ x.snd.snd.fst) && decide (x.snd.snd.fst < (16 : Int)))
                            (letK (x.snd.snd.snd.fst x.snd.snd.fst.toNat) fun (v : Int) =>
                              letK (IntKind.u64.wrap (v + (65536 : Int))) fun (v : Int) =>
                                bindK (g_billetref01_prime x.snd.snd.fst) fun (y : Int) =>
                                  letK (IntKind.u64.wrap (v - y)) fun (v : Int) =>
                                    letK (IntKind.u64.wrap (v - x.snd.fst)) fun (v : Int) =>
                                      letK (andI IntKind.u64 v (65535 : Int)) fun (v_2 : Int) =>
                                        guardB (decide ((0 : Int) ≤ x.snd.snd.fst) && decide (x.snd.snd.fst < (16 : Int)))
                                          (letK (updA x.snd.snd.snd.snd.snd.fst x.snd.snd.fst.toNat v_2) fun (v_3 : Nat → Int) =>
                                            letK (shrI IntKind.u64 v (16 : Int)) fun (v : Int) =>
                                              letK (IntKind.u64.wrap ((1 : Int) - v)) fun (v : Int) =>
                                                letK (IntKind.i64.wrap (x.snd.snd.fst + (1 : Int))) fun (v_4 : Int) =>
                                                  self_1 (x.fst, v, v_4, x.snd.snd.snd.fst, x.snd.snd.snd.snd.fst, v_3, ()))))
                          (letK (x.snd.fst == (0 : Int)) fun (v : Bool) =>
                            sel v (letK (IntKind.i64.wrap (x.fst + (1 : Int))) fun (v : Int) => self (v, x.snd.snd.snd.snd.snd.fst, x.snd.snd.snd.snd.fst, ()))
                              (letK (IntKind.i64.wrap (x.fst + (1 : Int))) fun (v : Int) => self (v, x.snd.snd.snd.fst, x.snd.snd.snd.snd.fst, ()))))
                    fuel (x.fst, (0 : Int), (0 : Int), x.snd.fst, x.snd.snd.fst, v, ()))
              (some x.snd.fst))
        fuel ((0 : Int), y, v, ())
noncomputable def F_billetref01_Of :=
fun (g_billetref01_full : (Nat → Int) → Option (Nat → Int)) (a : Nat → Int) =>
  letK (fun (x : Nat) => (0 : Int)) fun (v : Nat → Int) =>
    letK (fun (x : Nat) => (0 : Int)) fun (v_1 : Nat → Int) =>
      letK (fun (x : Nat) => (0 : Int)) fun (v_2 : Nat → Int) =>
        loopN
          (fun (self : Int × (Nat → Int) × (Nat → Int) × (Nat → Int) × Unit → Option (Nat → Int)) (x : Int × (Nat → Int) × (Nat → Int) × (Nat → Int) × Unit) =>
            letK (decide (x.fst < (16 : Int))) fun (v : Bool) =>
              sel v
                (letK (IntKind.i64.wrap ((2 : Int) * x.fst)) fun (v : Int) =>
                  guardB (decide ((0 : Int) ≤ v) && decide (v < (32 : Int)))
                    (letK (x.snd.fst v.toNat) fun (v : Int) =>
                      letK (IntKind.u64.wrap v) fun (v : Int) =>
                        letK (IntKind.i64.wrap ((2 : Int) * x.fst)) fun (v_3 : Int) =>
                          letK (IntKind.i64.wrap (v_3 + (1 : Int))) fun (v_4 : Int) =>
                            guardB (decide ((0 : Int) ≤ v_4) && decide (v_4 < (32 : Int)))
                              (letK (x.snd.fst v_4.toNat) fun (v_5 : Int) =>
                                letK (IntKind.u64.wrap v_5) fun (v_6 : Int) =>
                                  letK (IntKind.u64.wrap (v_6 * (256 : Int))) fun (v_7 : Int) =>
                                    letK (IntKind.u64.wrap (v + v_7)) fun (v : Int) =>
                                      guardB (decide ((0 : Int) ≤ x.fst) && decide (x.fst < (16 : Int)))
                                        (letK (updA x.snd.snd.snd.fst x.fst.toNat v) fun (v : Nat → Int) =>
                                          letK (IntKind.i64.wrap (x.fst + (1 : Int))) fun (v_8 : Int) => self (v_8, x.snd.fst, x.snd.snd.fst, v, ())))))
                (letK (x.snd.snd.snd.fst (15 : Nat)) fun (v : Int) =>
                  letK (andI IntKind.u64 v (32767 : Int)) fun (v : Int) =>
                    letK (updA x.snd.snd.snd.fst (15 : Nat) v) fun (v : Nat → Int) => bindK (g_billetref01_full v) fun (y : Nat → Int) => some y))
          fuel ((0 : Int), a, v, v_1, ())
noncomputable def F_billetref01_Small :=
fun (g_billetref01_full : (Nat → Int) → Option (Nat → Int)) (a : Int) =>
  letK (fun (x : Nat) => (0 : Int)) fun (v : Nat → Int) =>
    letK (andI IntKind.u64 a (65535 : Int)) fun (v : Int) =>
      letK (shrI IntKind.u64 a (16 : Int)) fun (v_1 : Int) =>
        letK (andI IntKind.u64 v_1 (65535 : Int)) fun (v_2 : Int) =>
          letK (shrI IntKind.u64 a (32 : Int)) fun (v_3 : Int) =>
            letK (andI IntKind.u64 v_3 (65535 : Int)) fun (v_4 : Int) =>
              letK (shrI IntKind.u64 a (48 : Int)) fun (v_5 : Int) =>
                letK (updA (updA (updA (updA (fun (x : Nat) => (0 : Int)) (0 : Nat) v) (1 : Nat) v_2) (2 : Nat) v_4) (3 : Nat) v_5) fun (v : Nat → Int) =>
                  bindK (g_billetref01_full v) fun (y : Nat → Int) => some y
noncomputable def F_billetref01_Key :=
fun (a : Nat → Int) =>
  letK (fun (x : Nat) => (0 : Int)) fun (v : Nat → Int) =>
    letK (fun (x : Nat) => (0 : Int)) fun (v_1 : Nat → Int) =>
      letK (fun (x : Nat) => (0 : Int)) fun (v_2 : Nat → Int) =>
        loopN
          (fun (self : Int × (Nat → Int) × (Nat → Int) × (Nat → Int) × Unit → Option (Nat → Int)) (x : Int × (Nat → Int) × (Nat → Int) × (Nat → Int) × Unit) =>
            letK (decide (x.fst < (16 : Int))) fun (v : Bool) =>
              sel v
                (letK (IntKind.i64.wrap ((2 : Int) * x.fst)) fun (v : Int) =>
                  guardB (decide ((0 : Int) ≤ x.fst) && decide (x.fst < (16 : Int)))
                    (letK (x.snd.fst x.fst.toNat) fun (v_3 : Int) =>
                      letK (IntKind.u8.wrap v_3) fun (v_4 : Int) =>
                        guardB (decide ((0 : Int) ≤ v) && decide (v < (32 : Int)))
                          (letK (updA x.snd.snd.snd.fst v.toNat v_4) fun (v : Nat → Int) =>
                            letK (IntKind.i64.wrap ((2 : Int) * x.fst)) fun (v_5 : Int) =>
                              letK (IntKind.i64.wrap (v_5 + (1 : Int))) fun (v_6 : Int) =>
                                guardB (decide ((0 : Int) ≤ x.fst) && decide (x.fst < (16 : Int)))
                                  (letK (x.snd.fst x.fst.toNat) fun (v_7 : Int) =>
                                    letK (shrI IntKind.u64 v_7 (8 : Int)) fun (v_8 : Int) =>
                                      letK (IntKind.u8.wrap v_8) fun (v_9 : Int) =>
                                        guardB (decide ((0 : Int) ≤ v_6) && decide (v_6 < (32 : Int)))
                                          (letK (updA v v_6.toNat v_9) fun (v : Nat → Int) =>
                                            letK (IntKind.i64.wrap (x.fst + (1 : Int))) fun (v_10 : Int) => self (v_10, x.snd.fst, x.snd.snd.fst, v, ()))))))
                (some x.snd.snd.snd.fst))
          fuel ((0 : Int), a, v, v_1, ())
noncomputable def F_billetref01_Add :=
fun (g_billetref01_full : (Nat → Int) → Option (Nat → Int)) (a : (Nat → Int) × (Nat → Int)) =>
  letK (fun (x : Nat) => (0 : Int)) fun (v : Nat → Int) =>
    loopN
      (fun (self : Int × (Nat → Int) × (Nat → Int) × (Nat → Int) × Unit → Option (Nat → Int)) (x : Int × (Nat → Int) × (Nat → Int) × (Nat → Int) × Unit) =>
        letK (decide (x.fst < (16 : Int))) fun (v : Bool) =>
          sel v
            (guardB (decide ((0 : Int) ≤ x.fst) && decide (x.fst < (16 : Int)))
              (letK (x.snd.fst x.fst.toNat) fun (v : Int) =>
                guardB (decide ((0 : Int) ≤ x.fst) && decide (x.fst < (16 : Int)))
                  (letK (x.snd.snd.fst x.fst.toNat) fun (v_1 : Int) =>
                    letK (IntKind.u64.wrap (v + v_1)) fun (v : Int) =>
                      guardB (decide ((0 : Int) ≤ x.fst) && decide (x.fst < (16 : Int)))
                        (letK (updA x.snd.fst x.fst.toNat v) fun (v : Nat → Int) =>
                          letK (IntKind.i64.wrap (x.fst + (1 : Int))) fun (v_2 : Int) => self (v_2, v, x.snd.snd.fst, x.snd.snd.snd.fst, ())))))
            (bindK (g_billetref01_full x.snd.fst) fun (y : Nat → Int) => some y))
      fuel ((0 : Int), a.fst, a.snd, v, ())
noncomputable def F_billetref01_Sub :=
fun (g_billetref01_Add : (Nat → Int) × (Nat → Int) → Option (Nat → Int)) (g_billetref01_prime : Int → Option Int) (a : (Nat → Int) × (Nat → Int)) =>
  letK (fun (x : Nat) => (0 : Int)) fun (v : Nat → Int) =>
    letK (fun (x : Nat) => (0 : Int)) fun (v_1 : Nat → Int) =>
      letK (fun (x : Nat) => (0 : Int)) fun (v_2 : Nat → Int) =>
        loopN
          (fun (self : Int × Int × (Nat → Int) × (Nat → Int) × (Nat → Int) × (Nat → Int) × Unit → Option (Nat → Int))
              (x : Int × Int × (Nat → Int) × (Nat → Int) × (Nat → Int) × (Nat → Int) × Unit) =>
            letK (decide (x.snd.fst < (16 : Int))) fun (v : Bool) =>
              sel v
                (bindK (g_billetref01_prime x.snd.fst) fun (y : Int) =>
                  letK (IntKind.u64.wrap (y + (65536 : Int))) fun (v : Int) =>
                    guardB (decide ((0 : Int) ≤ x.snd.fst) && decide (x.snd.fst < (16 : Int)))
                      (letK (x.snd.snd.snd.fst x.snd.fst.toNat) fun (v_3 : Int) =>
                        letK (IntKind.u64.wrap (v - v_3)) fun (v : Int) =>
                          letK (IntKind.u64.wrap (v - x.fst)) fun (v : Int) =>
                            letK (andI IntKind.u64 v (65535 : Int)) fun (v_4 : Int) =>
                              guardB (decide ((0 : Int) ≤ x.snd.fst) && decide (x.snd.fst < (16 : Int)))
                                (letK (updA x.snd.snd.snd.snd.snd.fst x.snd.fst.toNat v_4) fun (v_5 : Nat → Int) =>
                                  letK (shrI IntKind.u64 v (16 : Int)) fun (v : Int) =>
                                    letK (IntKind.u64.wrap ((1 : Int) - v)) fun (v : Int) =>
                                      letK (IntKind.i64.wrap (x.snd.fst + (1 : Int))) fun (v_6 : Int) =>
                                        self (v, v_6, x.snd.snd.fst, x.snd.snd.snd.fst, x.snd.snd.snd.snd.fst, v_5, ()))))
                (bindK (g_billetref01_Add (x.snd.snd.fst, x.snd.snd.snd.snd.snd.fst)) fun (y : Nat → Int) => some y))
          fuel ((0 : Int), (0 : Int), a.fst, a.snd, v, v_1, ())
noncomputable def F_billetref01_Mul :=
fun (g_billetref01_full : (Nat → Int) → Option (Nat → Int)) (a : (Nat → Int) × (Nat → Int)) =>
  letK (fun (x : Nat) => (0 : Int)) fun (v : Nat → Int) =>
    letK (fun (x : Nat) => (0 : Int)) fun (v_1 : Nat → Int) =>
      letK (fun (x : Nat) => (0 : Int)) fun (v_2 : Nat → Int) =>
        loopN
          (fun (self : Int × (Nat → Int) × (Nat → Int) × (Nat → Int) × (Nat → Int) × Unit → Option (Nat → Int))
              (x : Int × (Nat → Int) × (Nat → Int) × (Nat → Int) × (Nat → Int) × Unit) =>
            letK (decide (x.fst < (16 : Int))) fun (v : Bool) =>
              sel v
                (loopN
                  (fun (self_1 : Int × Int × (Nat → Int) × (Nat → Int) × (Nat → Int) × (Nat → Int) × Unit → Option (Nat → Int))
                      (x : Int × Int × (Nat → Int) × (Nat → Int) × (Nat → Int) × (Nat → Int) × Unit) =>
                    letK (decide (x.snd.fst < (16 : Int))) fun (v : Bool) =>
                      sel v
                        (letK (IntKind.i64.wrap (x.fst + x.snd.fst)) fun (v : Int) =>
                          guardB (decide ((0 : Int) ≤ v) && decide (v < (32 : Int)))
                            (letK (x.snd.snd.snd.snd.snd.fst v.toNat) fun (v_3 : Int) =>
                              guardB (decide ((0 : Int) ≤ x.fst) && decide (x.fst < (16 : Int)))
                                (letK (x.snd.snd.fst x.fst.toNat) fun (v_4 : Int) =>
                                  guardB (decide ((0 : Int) ≤ x.snd.fst) && decide (x.snd.fst < (16 : Int)))
                                    (letK (x.snd.snd.snd.fst x.snd.fst.toNat) fun (v_5 : Int) =>
                                      letK (IntKind.u64.wrap (v_4 * v_5)) fun (v_6 : Int) =>
                                        letK (IntKind.u64.wrap (v_3 + v_6)) fun (v_7 : Int) =>
                                          guardB (decide ((0 : Int) ≤ v) && decide (v < (32 : Int)))
                                            (letK (updA x.snd.snd.snd.snd.snd.fst v.toNat v_7) fun (v : Nat → Int) =>
                                              letK (IntKind.i64.wrap (x.snd.fst + (1 : Int))) fun (v_8 : Int) =>
                                                self_1 (x.fst, v_8, x.snd.snd.fst, x.snd.snd.snd.fst, x.snd.snd.snd.snd.fst, v, ()))))))
                        (letK (IntKind.i64.wrap (x.fst + (1 : Int))) fun (v : Int) =>
                          self (v, x.snd.snd.fst, x.snd.snd.snd.fst, x.snd.snd.snd.snd.fst, x.snd.snd.snd.snd.snd.fst, ())))
                  fuel (x.fst, (0 : Int), x.snd.fst, x.snd.snd.fst, x.snd.snd.snd.fst, x.snd.snd.snd.snd.fst, ()))
                (letK (fun (x : Nat) => (0 : Int)) fun (v : Nat → Int) =>
                  letK (fun (x : Nat) => (0 : Int)) fun (v_3 : Nat → Int) =>
                    loopN
                      (fun (self : Int × (Nat → Int) × (Nat → Int) × (Nat → Int) × Unit → Option (Nat → Int))
                          (x : Int × (Nat → Int) × (Nat → Int) × (Nat → Int) × Unit) =>
                        letK (decide (x.fst < (16 : Int))) fun (v : Bool) =>
                          sel v
                            (guardB (decide ((0 : Int) ≤ x.fst) && decide (x.fst < (32 : Int)))
                              (letK (x.snd.snd.fst x.fst.toNat) fun (v : Int) =>
                                letK (IntKind.i64.wrap (x.fst + (16 : Int))) fun (v_4 : Int) =>
                                  guardB (decide ((0 : Int) ≤ v_4) && decide (v_4 < (32 : Int)))
                                    (letK (x.snd.snd.fst v_4.toNat) fun (v_5 : Int) =>
                                      letK (IntKind.u64.wrap ((38 : Int) * v_5)) fun (v_6 : Int) =>
                                        letK (IntKind.u64.wrap (v + v_6)) fun (v : Int) =>
                                          guardB (decide ((0 : Int) ≤ x.fst) && decide (x.fst < (16 : Int)))
                                            (letK (updA x.snd.snd.snd.fst x.fst.toNat v) fun (v : Nat → Int) =>
                                              letK (IntKind.i64.wrap (x.fst + (1 : Int))) fun (v_7 : Int) => self (v_7, x.snd.fst, x.snd.snd.fst, v, ())))))
                            (bindK (g_billetref01_full x.snd.snd.snd.fst) fun (y : Nat → Int) => some y))
                      fuel ((0 : Int), x.snd.snd.snd.fst, x.snd.snd.snd.snd.fst, v, ())))
          fuel ((0 : Int), a.fst, a.snd, v, v_1, ())
noncomputable def F_billetref01_Inv :=
fun (g_billetref01_Mul : (Nat → Int) × (Nat → Int) → Option (Nat → Int)) (a : Nat → Int) =>
  letK (fun (x : Nat) => (0 : Int)) fun (v : Nat → Int) =>
    letK (fun (x : Nat) => (0 : Int)) fun (v_1 : Nat → Int) =>
      loopN
        (fun (self : Int × (Nat → Int) × (Nat → Int) × (Nat → Int) × Unit → Option (Nat → Int)) (x : Int × (Nat → Int) × (Nat → Int) × (Nat → Int) × Unit) =>
          letK (decide (x.fst ≥ (0 : Int))) fun (v : Bool) =>
            sel v
              (bindK (g_billetref01_Mul (x.snd.snd.snd.fst, x.snd.snd.snd.fst)) fun (y : Nat → Int) =>
                bindK (letK (x.fst != (2 : Int)) fun (v : Bool) => sel v (letK (x.fst != (4 : Int)) fun (v : Bool) => some (v, ())) (some (false, ())))
                  fun (y_1 : Bool × Unit) =>
                  sel y_1.fst
                    (bindK (g_billetref01_Mul (y, x.snd.fst)) fun (y : Nat → Int) =>
                      letK (IntKind.i64.wrap (x.fst - (1 : Int))) fun (v : Int) => self (v, x.snd.fst, x.snd.snd.fst, y, ()))
                    (letK (IntKind.i64.wrap (x.fst - (1 : Int))) fun (v : Int) => self (v, x.snd.fst, x.snd.snd.fst, y, ())))
              (some x.snd.snd.snd.fst))
        fuel ((253 : Int), a, v, a, ())

abbrev D16 : Int := 65536

theorem and16 {x : Int} (h0 : 0 ≤ x) (h1 : x < 18446744073709551616) : andI .u64 x 65535 = x % D16 := andI_u64 16 (by decide) (by decide) h0 h1
theorem shr16 (x : Int) : shrI .u64 x 16 = x / D16 := shrI_div .u64 x 16 (by decide)

/-- A number of the document's field. -/
structure FR (r : Nat → Int) (n : Int) : Prop where
  dig : ∀ i, i < 16 → 0 ≤ r i ∧ r i < D16
  val : val D16 16 r = n
  lt : n < p25519

theorem FR.nonneg {r : Nat → Int} {n : Int} (h : FR r n) : 0 ≤ n := by rw [← h.val]; exact (val_lt (by decide) h.dig).1

structure PassD (l r : Nat → Int) (M : Int) : Prop where
  r0 : 0 ≤ r 0 ∧ r 0 < D16 + M
  ri : ∀ i, 1 ≤ i → i < 16 → 0 ≤ r i ∧ r i < D16
  ex : ∃ c, 0 ≤ c ∧ 38 * c ≤ M ∧ c * D16 ^ 16 ≤ val D16 16 l ∧ val D16 16 l < (c + 1) * D16 ^ 16 ∧ val D16 16 r = val D16 16 l - c * (2 * p25519) ∧ (c = 0 → ∀ i, i < 16 → r i < D16)

theorem passD_end {l1 l : Nat → Int} {c M : Int} (h : CarryI D16 16 l1 0 M 16 c l) : PassD l1 (updA l 0 (l 0 + 38 * c)) (38 * M) := by
  have h0 := h.low 0 (by omega)
  have hc := h.cm
  have hs := h.sum
  have hv := val_lt (B := D16) (by decide) h.low
  have hu : val D16 16 (updA l 0 (l 0 + 38 * c)) = val D16 16 l + 38 * c := by rw [val_upd (by omega), Int.pow_zero, Int.mul_one]; omega
  have hp : D16 ^ 16 = 2 * p25519 + 38 := by decide
  refine ⟨?_, fun i h1 h5 => ?_, ⟨c, hc.1, by omega, ?_, ?_, ?_, fun e i hi => ?_⟩⟩
  · rw [updA_self]; omega
  · rw [updA_ne _ _ (by omega)]; exact h.low i h5
  · omega
  · rw [Int.add_mul]; omega
  · rw [hu]; rw [hp, Int.mul_add] at hs; omega
  · subst e
    by_cases e0 : i = 0
    · subst e0; rw [updA_self]; omega
    · rw [updA_ne _ _ e0]; exact (h.low i hi).2

theorem PassD.hi {l r : Nat → Int} {M : Int} (h : PassD l r M) : val D16 16 r < D16 ^ 16 + M := by
  have a0 := h.r0
  have := val_lt (B := D16) (n := 16) (f := updA r 0 (D16 - 1)) (by decide) fun i hi => by
    by_cases e : i = 0
    · subst e; rw [updA_self]; decide
    · rw [updA_ne _ _ e]; exact h.ri i (by omega) hi
  rw [val_upd (by omega), Int.pow_zero, Int.mul_one] at this
  omega

theorem PassD.nn {l r : Nat → Int} {M : Int} (h : PassD l r M) : 0 ≤ val D16 16 r := val_nonneg (by decide) fun i hi => by
  by_cases e : i = 0
  · subst e; exact h.r0.1
  · exact (h.ri i (by omega) hi).1

/-- Behind three passes. -/
theorem three_passes {l a b r : Nat → Int} {M1 M2 M3 : Int} (h1 : PassD l a M1) (hM1 : M1 ≤ 38 * 8589934592) (h2 : PassD a b M2) (h3 : PassD b r M3) :
    (∀ i, i < 16 → 0 ≤ r i ∧ r i < D16) ∧ ∃ q, val D16 16 r = val D16 16 l - q * p25519 := by
  have p16 : D16 ^ 16 = 115792089237316195423570985008687907853269984665640564039457584007913129639936 := by decide
  have v1 := h1.hi; have v2 := h2.hi; have n1 := h1.nn; have n2 := h2.nn
  obtain ⟨c1, a1, a2, a3, a4, a5, _⟩ := h1.ex
  obtain ⟨c2, b1, b2, b3, b4, b5, _⟩ := h2.ex
  obtain ⟨c3, d1, d2, d3, d4, d5, d6⟩ := h3.ex
  rw [p16] at v1 v2 a3 a4 b3 b4 d3 d4
  have hc2 : c2 = 0 ∨ c2 = 1 := by unfold p25519 at *; omega
  have hb : val D16 16 b < 115792089237316195423570985008687907853269984665640564039457584007913129639936 + 38 := by
    rcases hc2 with rfl | rfl <;> unfold p25519 at * <;> omega
  have hc3 : c3 = 0 ∨ c3 = 1 := by unfold p25519 at *; omega
  refine ⟨fun i hi => ?_, ⟨2 * (c1 + c2 + c3), by rw [d5, b5, a5]; unfold p25519; omega⟩⟩
  have hr : val D16 16 r < 115792089237316195423570985008687907853269984665640564039457584007913129639936 ∧ (c3 = 1 → val D16 16 r < 76) := by
    rcases hc3 with rfl | rfl <;> unfold p25519 at * <;> omega
  by_cases e : i = 0
  · subst e
    refine ⟨h3.r0.1, ?_⟩
    rcases Int.lt_or_le (r 0) D16 with h | h
    · exact h
    · exfalso
      -- the lowest digit at most the number
      have hge : r 0 ≤ val D16 16 r := by
        have := val_nonneg (B := D16) (n := 16) (f := updA r 0 0) (by decide) fun i hi => by
          by_cases e : i = 0
          · subst e; rw [updA_self]; decide
          · rw [updA_ne _ _ e]; exact (h3.ri i (by omega) hi).1
        rw [val_upd (by omega), Int.pow_zero, Int.mul_one] at this
        omega
      rcases hc3 with rfl | rfl
      · have := d6 rfl 0 (by omega); omega
      · have := hr.2 rfl; unfold D16 at *; omega
  · exact h3.ri i (by omega) hi


theorem ref_carry_ret {l : Nat → Int} (hl : ∀ i, i < 16 → 0 ≤ l i ∧ l i ≤ 281474976710656) : Ret (F_billetref01_carry l) fun r => (∀ i, i < 16 → 0 ≤ r i ∧ r i < D16) ∧ ∃ q, val D16 16 r = val D16 16 l - q * p25519 := by
  unfold F_billetref01_carry
  refine ret_let ?_
  refine ret_loop (fun x => ∃ k : Nat, x.1 = k ∧ k ≤ 3 ∧ (k = 0 → x.2.1 = l) ∧ (k = 1 → PassD l x.2.1 (38 * 8589934592)) ∧ (k = 2 → ∃ a, PassD l a (38 * 8589934592) ∧ PassD a x.2.1 (38 * 8388608)) ∧ (k = 3 → ∃ a b, PassD l a (38 * 8589934592) ∧ PassD a b (38 * 8388608) ∧ PassD b x.2.1 (38 * 8388608))) (fun x => 3 - x.1.toNat) ⟨0, rfl, by omega, fun _ => rfl, fun h => by omega, fun h => by omega, fun h => by omega⟩ (by simp) ?_
  rintro self ⟨i, l1, d, ⟨⟩⟩ ⟨k, hi, hk, h0, h1, h2, h3⟩ ih
  dsimp only at hi h0 h1 h2 h3 ih ⊢
  subst hi
  refine ret_let (ret_sel (fun hlt => ?_) (fun hge => ?_))
  · have hltN : k < 3 := by have := of_decide_eq_true hlt; omega
    obtain ⟨M, hM0, hM, hMk⟩ : ∃ M : Int, (0 ≤ M ∧ M ≤ 8589934592) ∧ (∀ j, j < 16 → 0 ≤ l1 j ∧ l1 j ≤ 281474976710656 ∧ (l1 j + M) / D16 ≤ M) ∧ (k = 0 → M = 8589934592) ∧ (k ≠ 0 → M = 8388608) := by
      by_cases e : k = 0
      · refine ⟨8589934592, by omega, fun j hj => ?_, fun _ => rfl, fun h => by omega⟩
        rw [h0 e]
        have := hl j hj
        exact ⟨this.1, this.2, by unfold D16; omega⟩
      · refine ⟨8388608, by omega, fun j hj => ?_, fun h => by omega, fun _ => rfl⟩
        have hp : ∃ a M, PassD a l1 M ∧ M ≤ 38 * 8589934592 := by
          by_cases e1 : k = 1
          · exact ⟨l, _, h1 e1, by omega⟩
          · obtain ⟨a, _, hb⟩ := h2 (by omega); exact ⟨a, _, hb, by omega⟩
        obtain ⟨a, M, hp, hM⟩ := hp
        have := hp.r0
        by_cases ej : j = 0
        · subst ej; unfold D16 at *; omega
        · have := hp.ri j (by omega) hj; unfold D16 at *; omega
    refine ret_loop (fun x => ∃ j : Nat, x.2.2.1 = j ∧ x.1 = k ∧ CarryI D16 16 l1 0 M j x.2.1 x.2.2.2.1) (fun x => 16 - x.2.2.1.toNat) ⟨0, rfl, rfl, CarryI.start (by omega)⟩ (by simp) ?_
    rintro self' ⟨i', c, j', r, d', ⟨⟩⟩ ⟨j, hj, hi', hI⟩ ih'
    dsimp only at hj hi' hI ih' ⊢
    subst hj; subst hi'
    refine ret_let (ret_sel (fun hlt' => ?_) (fun hge' => ?_))
    · have hltM : j < 16 := by have := of_decide_eq_true hlt'; omega
      have hg := two_guard (a := (j : Int)) (n := 16) (by omega) (by omega)
      have hr := hI.high j (Nat.le_refl _)
      have hb := hM j hltM
      have hc := hI.cm
      have e1 : IntKind.u64.wrap (r j + c) = r j + c := wrap_u64_id (by omega) (by omega)
      have e2 : IntKind.i64.wrap ((j : Int) + 1) = ((j + 1 : Nat) : Int) := by rw [wrap_i64 (by omega) (by omega)]; simp
      refine ret_guard hg (ret_let (ret_let (ret_guard hg (ret_let (ret_guard hg (ret_let (ret_let (ret_guard hg (ret_let (ret_let (ret_guard hg (ret_let (ret_let ?_)))))))))))))
      simp only [Int.toNat_natCast, updA_self, e1, e2, updA_upd, shr16, and16 (x := r j + c) (by omega) (by omega)]
      exact ih' _ ⟨j + 1, rfl, rfl, hI.step (by decide) hltM ⟨hb.1, hb.2.2⟩⟩ (by simp; omega)
    · have hj5 : j = 16 := by have := hI.jn; simp at hge'; omega
      subst hj5
      have hp := passD_end hI
      have hc := hI.cm
      have h0' := hI.low 0 (by omega)
      have e1 : IntKind.u64.wrap (38 * c) = 38 * c := wrap_u64_id (by omega) (by omega)
      have e2 : IntKind.u64.wrap (r 0 + 38 * c) = r 0 + 38 * c := wrap_u64_id (by omega) (by unfold D16 at h0'; omega)
      have e3 : IntKind.i64.wrap ((k : Int) + 1) = ((k + 1 : Nat) : Int) := by rw [wrap_i64 (by omega) (by omega)]; simp
      refine ret_let (ret_let (ret_let (ret_let (ret_let ?_))))
      simp only [e1, e2, e3]
      refine ih _ ⟨k + 1, rfl, by omega, fun h => by omega, fun h => ?_, fun h => ?_, fun h => ?_⟩ (by simp; omega)
      · have ek : k = 0 := by omega
        rw [hMk.1 ek, h0 ek] at hp
        exact hp
      · have ek : k = 1 := by omega
        rw [hMk.2 (by omega)] at hp
        exact ⟨l1, h1 ek, hp⟩
      · have ek : k = 2 := by omega
        rw [hMk.2 (by omega)] at hp
        obtain ⟨a, ha, hb⟩ := h2 ek
        exact ⟨a, l1, ha, hb, hp⟩
  · have ek : k = 3 := by simp at hge; omega
    obtain ⟨a, b, ha, hb, hc⟩ := h3 ek
    exact ret_some (three_passes ha (by omega) hb hc)

/-- The prime's digits. -/
def pdig (i : Nat) : Int := if i = 0 then 65517 else if i = 15 then 32767 else 65535

theorem pdig_bd (i : Nat) : 32767 ≤ pdig i ∧ pdig i ≤ 65535 := by unfold pdig; split <;> (try split) <;> omega
theorem pdig_val : val D16 16 pdig = p25519 := by decide

theorem ref_prime (i : Nat) (h : i < 16) : F_billetref01_prime (i : Int) = some (pdig i) := by
  unfold F_billetref01_prime pdig
  simp only [letK_def, sel_ite]
  by_cases h0 : i = 0
  · subst h0; rfl
  · have e0 : ((i : Int) == 0) = false := by simp; omega
    rw [e0, if_neg h0]
    by_cases h1 : i = 15
    · subst h1; rfl
    · have e1 : ((i : Int) == 15) = false := by simp; omega
      rw [e1, if_neg h1]; rfl

/-- Digits taken away, with what is borrowed. -/
structure LessI (a b : Nat → Int) (out : Nat → Int) (j : Nat) (less : Int) : Prop where
  jn : j ≤ 16
  low : ∀ i, i < j → 0 ≤ out i ∧ out i < D16
  sum : val D16 j out - less * D16 ^ j = val D16 j a - val D16 j b
  l01 : less = 0 ∨ less = 1

theorem LessI.step {a b out : Nat → Int} {j : Nat} {less : Int} (h : LessI a b out j less) (hj : j < 16) (ha : 0 ≤ a j ∧ a j < D16) (hb : 0 ≤ b j ∧ b j < D16) :
    (0 ≤ a j + 65536 - b j - less ∧ a j + 65536 - b j - less < 131072) ∧ LessI a b (updA out j ((a j + 65536 - b j - less) % D16)) (j + 1) (1 - (a j + 65536 - b j - less) / D16) := by
  have hl := h.l01
  unfold D16 at *
  refine ⟨by omega, by omega, fun i hi => ?_, ?_, by omega⟩
  · by_cases e : i = j
    · subst e; rw [updA_self]; unfold D16; omega
    · rw [updA_ne _ _ e]; exact h.low i (by omega)
  · simp only [val]
    rw [val_upd_ge (Nat.le_refl _), updA_self, Int.pow_succ]
    have hs := h.sum
    unfold D16 at *
    have e1 : (1 - (a j + 65536 - b j - less) / 65536) * (65536 ^ j * 65536) = ((1 - (a j + 65536 - b j - less) / 65536) * 65536) * 65536 ^ j := by simp only [Int.mul_assoc, Int.mul_comm, Int.mul_left_comm]
    rw [e1]
    have e2 : (1 - (a j + 65536 - b j - less) / 65536) * 65536 = less - (a j - b j) + (a j + 65536 - b j - less) % 65536 := by omega
    rw [e2, Int.add_mul, Int.sub_mul, Int.sub_mul]
    omega

theorem ref_full_ret {l : Nat → Int} (hl : ∀ i, i < 16 → 0 ≤ l i ∧ l i ≤ 281474976710656) : Ret (F_billetref01_full F_billetref01_carry F_billetref01_prime l) fun r => FR r (val D16 16 l % p25519) := by
  unfold F_billetref01_full
  refine ret_let (ret_bind (ref_carry_ret hl) ?_)
  rintro y ⟨hy, q, hq⟩
  have hmod : val D16 16 l % p25519 = val D16 16 y % p25519 := by rw [hq, Int.sub_mul_emod_self_right]
  have hyv := val_lt (B := D16) (by decide) hy
  rw [show D16 ^ 16 = 2 * p25519 + 38 by decide] at hyv
  rw [hmod]
  clear hmod hq
  refine ret_loop (fun x => ∃ k : Nat, x.1 = k ∧ k ≤ 3 ∧ (∀ i, i < 16 → 0 ≤ x.2.1 i ∧ x.2.1 i < D16) ∧ ∃ q, val D16 16 x.2.1 = val D16 16 y - q * p25519 ∧ ((k = 0 ∧ val D16 16 x.2.1 < 2 * p25519 + 38) ∨ (k = 1 ∧ val D16 16 x.2.1 < p25519 + 38) ∨ (2 ≤ k ∧ val D16 16 x.2.1 < p25519))) (fun x => 3 - x.1.toNat) ⟨0, rfl, by omega, hy, 0, by dsimp only; omega, .inl ⟨rfl, hyv.2⟩⟩ (by simp) ?_
  rintro self ⟨k', a, d, ⟨⟩⟩ ⟨k, h1, hk, ha, q, hq, hlt⟩ ih
  dsimp only at h1 ha hq hlt ih ⊢
  subst h1
  refine ret_let (ret_sel (fun hl3 => ?_) (fun hge => ?_))
  · have hkN : k < 3 := by have := of_decide_eq_true hl3; omega
    have e3 : IntKind.i64.wrap ((k : Int) + 1) = ((k + 1 : Nat) : Int) := by rw [wrap_i64 (by omega) (by omega)]; simp
    have hav := val_lt (B := D16) (by decide) ha
    refine ret_let (ret_let ?_)
    refine ret_loop (fun x => ∃ j : Nat, x.2.2.1 = j ∧ x.1 = k ∧ x.2.2.2.1 = a ∧ LessI a pdig x.2.2.2.2.2.1 j x.2.1) (fun x => 16 - x.2.2.1.toNat) ⟨0, rfl, rfl, rfl, by omega, fun i hi => by omega, by simp [val], .inl rfl⟩ (by simp) ?_
    rintro self' ⟨k1, less, j', a1, d1, out, ⟨⟩⟩ ⟨j, g1, g2, g3, hI⟩ ih'
    dsimp only at g1 g2 g3 hI ih' ⊢
    subst g1; subst g2; subst g3
    refine ret_let (ret_sel (fun hlt' => ?_) (fun hge' => ?_))
    · have hltM : j < 16 := by have := of_decide_eq_true hlt'; omega
      have hg := two_guard (a := (j : Int)) (n := 16) (by omega) (by omega)
      have hb := pdig_bd j
      have haj := ha j hltM
      obtain ⟨hs, hI'⟩ := hI.step hltM haj (by unfold D16; omega)
      have hl01 := hI.l01
      have e1 : IntKind.u64.wrap (a1 j + 65536) = a1 j + 65536 := wrap_u64_id (by omega) (by unfold D16 at haj; omega)
      have e2 : IntKind.u64.wrap (a1 j + 65536 - pdig j) = a1 j + 65536 - pdig j := wrap_u64_id (by omega) (by unfold D16 at haj; omega)
      have e4 : IntKind.u64.wrap (a1 j + 65536 - pdig j - less) = a1 j + 65536 - pdig j - less := wrap_u64_id (by omega) (by omega)
      have e5 : IntKind.u64.wrap (1 - (a1 j + 65536 - pdig j - less) / D16) = 1 - (a1 j + 65536 - pdig j - less) / D16 := wrap_u64_id (by unfold D16; omega) (by unfold D16; omega)
      have e6 : IntKind.i64.wrap ((j : Int) + 1) = ((j + 1 : Nat) : Int) := by rw [wrap_i64 (by omega) (by omega)]; simp
      refine ret_guard hg (ret_let (ret_let ?_))
      rw [ref_prime j hltM]
      refine ret_let (ret_let (ret_let (ret_guard hg (ret_let (ret_let (ret_let (ret_let ?_)))))))
      simp only [Int.toNat_natCast, e1, e2, e4, e5, e6, shr16, and16 hs.1 (show a1 j + 65536 - pdig j - less < 18446744073709551616 by omega)]
      exact ih' _ ⟨j + 1, rfl, rfl, rfl, hI'⟩ (by simp; omega)
    · have hj : j = 16 := by have := hI.jn; simp at hge'; omega
      subst hj
      have hs := hI.sum
      rw [pdig_val] at hs
      have hov := val_lt (B := D16) (by decide) hI.low
      have p16 : D16 ^ 16 = 2 * p25519 + 38 := by decide
      rw [p16] at hs hov hav
      refine ret_let (ret_sel (fun hz => ?_) (fun hz => ?_))
      · have hz : less = 0 := by simpa using hz
        subst hz
        refine ret_let ?_
        simp only [e3]
        refine ih _ ⟨k + 1, rfl, by omega, hI.low, q + 1, ?_, ?_⟩ (by simp; omega)
        · dsimp only; rw [Int.add_mul]; omega
        · dsimp only; unfold p25519 at *; omega
      · have hz : less = 1 := by have := hI.l01; simp at hz; omega
        subst hz
        refine ret_let ?_
        simp only [e3]
        refine ih _ ⟨k + 1, rfl, by omega, ha, q, hq, ?_⟩ (by simp; omega)
        dsimp only; unfold p25519 at *; omega
  · have ek : k = 3 := by simp at hge; omega
    subst ek
    refine ret_some ?_
    have hav := val_lt (B := D16) (by decide) ha
    have hlt2 : val D16 16 a < p25519 := by omega
    refine ⟨ha, ?_, Int.emod_lt_of_pos _ (by decide)⟩
    rw [← Int.emod_eq_of_lt hav.1 hlt2, hq, Int.sub_mul_emod_self_right]

noncomputable abbrev rfull := F_billetref01_full F_billetref01_carry F_billetref01_prime

theorem ref_Of_ret {a : Nat → Int} (ha : IsBytes 32 a) : Ret (F_billetref01_Of rfull a) fun r => FR r (val 256 32 a % 57896044618658097711785492504343953926634992332820282019728792003956564819968 % p25519) := by
  unfold F_billetref01_Of
  refine ret_let (ret_let (ret_let ?_))
  refine ret_loop (fun x => ∃ k : Nat, x.1 = k ∧ k ≤ 16 ∧ x.2.1 = a ∧ ∀ i, i < k → x.2.2.2.1 i = a (2 * i) + a (2 * i + 1) * 256) (fun x => 16 - x.1.toNat) ⟨0, rfl, by omega, rfl, fun i hi => by omega⟩ (by simp) ?_
  rintro self ⟨k', a', d, w, ⟨⟩⟩ ⟨k, h1, hk, h2, hw⟩ ih
  dsimp only at h1 h2 hw ih ⊢
  subst h1; subst h2
  refine ret_let (ret_sel (fun hlt => ?_) (fun hge => ?_))
  · have hltN : k < 16 := by have := of_decide_eq_true hlt; omega
    have hg := two_guard (a := (k : Int)) (n := 16) (by omega) (by omega)
    have hga := two_guard (a := ((2 * k : Nat) : Int)) (n := 32) (by omega) (by omega)
    have hgb := two_guard (a := ((2 * k + 1 : Nat) : Int)) (n := 32) (by omega) (by omega)
    have b0 := ha (2 * k) (by omega); have b1 := ha (2 * k + 1) (by omega)
    have e1 : IntKind.i64.wrap (2 * (k : Int)) = ((2 * k : Nat) : Int) := by rw [wrap_i64 (by omega) (by omega)]; simp
    have e2 : IntKind.i64.wrap (((2 * k : Nat) : Int) + 1) = ((2 * k + 1 : Nat) : Int) := by rw [wrap_i64 (by omega) (by omega)]; simp
    have e3 : IntKind.u64.wrap (a' (2 * k)) = a' (2 * k) := wrap_u64_id (by omega) (by omega)
    have e4 : IntKind.u64.wrap (a' (2 * k + 1)) = a' (2 * k + 1) := wrap_u64_id (by omega) (by omega)
    have e5 : IntKind.u64.wrap (a' (2 * k + 1) * 256) = a' (2 * k + 1) * 256 := wrap_u64_id (by omega) (by omega)
    have e6 : IntKind.u64.wrap (a' (2 * k) + a' (2 * k + 1) * 256) = a' (2 * k) + a' (2 * k + 1) * 256 := wrap_u64_id (by omega) (by omega)
    have e7 : IntKind.i64.wrap ((k : Int) + 1) = ((k + 1 : Nat) : Int) := by rw [wrap_i64 (by omega) (by omega)]; simp
    refine ret_let ?_
    simp only [e1]
    refine ret_guard hga (ret_let (ret_let (ret_let (ret_let ?_))))
    simp only [e2]
    refine ret_guard hgb (ret_let (ret_let (ret_let (ret_let (ret_guard hg (ret_let (ret_let ?_)))))))
    simp only [Int.toNat_natCast, e3, e4, e5, e6, e7]
    refine ih _ ⟨k + 1, rfl, by omega, rfl, fun i hi => ?_⟩ (by simp; omega)
    dsimp only
    by_cases e : i = k
    · subst e; rw [updA_self]
    · rw [updA_ne _ _ e]; exact hw i (by omega)
  · have ek : k = 16 := by simp at hge; omega
    subst ek
    have hwb : ∀ i, i < 16 → 0 ≤ w i ∧ w i < D16 := fun i hi => by
      rw [hw i hi]
      have b0 := ha (2 * i) (by omega); have b1 := ha (2 * i + 1) (by omega)
      unfold D16; omega
    have hwv : ∀ n, n ≤ 16 → val D16 n w = val 256 (2 * n) a' := by
      intro n
      induction n with
      | zero => intro _; rfl
      | succ n ih =>
        intro hn
        rw [show 2 * (n + 1) = 2 * n + 1 + 1 by omega]
        simp only [val]
        rw [ih (by omega), hw n (by omega), Int.pow_succ, show (D16 : Int) = 256 ^ 2 from rfl, ← Int.pow_mul, Int.add_mul]
        have : a' (2 * n + 1) * 256 * 256 ^ (2 * n) = a' (2 * n + 1) * (256 ^ (2 * n) * 256) := by rw [Int.mul_assoc, Int.mul_comm 256]
        rw [this]; omega
    have h15 := hwb 15 (by omega)
    have a15 : andI .u64 (w 15) 32767 = w 15 % 32768 := andI_u64 15 (by decide) (by decide) h15.1 (by unfold D16 at h15; omega)
    refine ret_let (ret_let (ret_let ?_))
    rw [a15]
    refine ret_bind (ref_full_ret fun i hi => ?_) ?_
    · by_cases e : i = 15
      · subst e; rw [updA_self]; omega
      · rw [updA_ne _ _ e]; have := hwb i hi; unfold D16 at this; omega
    · intro r hr
      refine ret_some ?_
      have e : val D16 16 (updA w 15 (w 15 % 32768)) = val 256 32 a' % 57896044618658097711785492504343953926634992332820282019728792003956564819968 := by
        rw [← hwv 16 (Nat.le_refl _), val_upd (by omega)]
        have h := val_lt (B := D16) (n := 15) (f := w) (by decide) fun i hi => hwb i (by omega)
        have p15 : D16 ^ 15 = 1766847064778384329583297500742918515827483896875618958121606201292619776 := by decide
        simp only [show val D16 16 w = val D16 15 w + w 15 * D16 ^ 15 from rfl]
        rw [p15] at h ⊢
        generalize val D16 15 w = u at *
        unfold D16 at h15
        omega
      rw [e] at hr
      exact hr

theorem ref_Small_ret {n : Int} (h0 : 0 ≤ n) (h1 : n < 18446744073709551616) : Ret (F_billetref01_Small rfull n) fun r => FR r n := by
  unfold F_billetref01_Small
  have s1 := shr16 n
  have s2 : shrI .u64 n 32 = n / 4294967296 := shr64 n 32 (by omega)
  have s3 : shrI .u64 n 48 = n / 281474976710656 := shr64 n 48 (by omega)
  repeat (with_reducible refine ret_let ?_)
  simp only [s1, s2, s3, and16 h0 h1, and16 (x := n / D16) (by unfold D16; omega) (by unfold D16; omega), and16 (x := n / 4294967296) (by omega) (by omega)]
  generalize hw : updA (updA (updA (updA (fun _ => 0) 0 (n % D16)) 1 (n / D16 % D16)) 2 (n / 4294967296 % D16)) 3 (n / 281474976710656) = w
  have hwl : ∀ i, 4 ≤ i → w i = 0 := fun i hi => by rw [← hw]; simp only [updA_ne _ _ (show i ≠ 3 by omega), updA_ne _ _ (show i ≠ 2 by omega), updA_ne _ _ (show i ≠ 1 by omega), updA_ne _ _ (show i ≠ 0 by omega)]
  have hv : val D16 16 w = n := by
    rw [val_pad (n := 4) (by omega) fun i h _ => hwl i h, ← hw]
    simp [val, updA, Int.pow_succ]
    unfold D16
    omega
  refine ret_bind (ref_full_ret (l := w) fun i hi => ?_) ?_
  · by_cases h : 4 ≤ i
    · rw [hwl i h]; omega
    · have : i = 0 ∨ i = 1 ∨ i = 2 ∨ i = 3 := by omega
      rw [← hw]; unfold D16
      rcases this with rfl | rfl | rfl | rfl <;> simp [updA] <;> omega
  · intro r hr
    refine ret_some ?_
    rw [hv, Int.emod_eq_of_lt h0 (by unfold p25519; omega)] at hr
    exact hr

theorem ref_Key_ret {l : Nat → Int} {n : Int} (hl : FR l n) : Ret (F_billetref01_Key l) fun r => KeyOf r n := by
  unfold F_billetref01_Key
  refine ret_let (ret_let (ret_let ?_))
  refine ret_loop (fun x => ∃ k : Nat, x.1 = k ∧ k ≤ 16 ∧ x.2.1 = l ∧ (∀ i, i < 2 * k → 0 ≤ x.2.2.2.1 i ∧ x.2.2.2.1 i < 256) ∧ val 256 (2 * k) x.2.2.2.1 = val D16 k l) (fun x => 16 - x.1.toNat) ⟨0, rfl, by omega, rfl, fun i hi => by omega, rfl⟩ (by simp) ?_
  rintro self ⟨k', l', d, r, ⟨⟩⟩ ⟨k, h1, hk, h2, hb, hv⟩ ih
  dsimp only at h1 h2 hb hv ih ⊢
  subst h1; subst h2
  refine ret_let (ret_sel (fun hlt => ?_) (fun hge => ?_))
  · have hltN : k < 16 := by have := of_decide_eq_true hlt; omega
    have hg := two_guard (a := (k : Int)) (n := 16) (by omega) (by omega)
    have hga := two_guard (a := ((2 * k : Nat) : Int)) (n := 32) (by omega) (by omega)
    have hgb := two_guard (a := ((2 * k + 1 : Nat) : Int)) (n := 32) (by omega) (by omega)
    have hd := hl.dig k hltN
    have e1 : IntKind.i64.wrap (2 * (k : Int)) = ((2 * k : Nat) : Int) := by rw [wrap_i64 (by omega) (by omega)]; simp
    have e2 : IntKind.i64.wrap (((2 * k : Nat) : Int) + 1) = ((2 * k + 1 : Nat) : Int) := by rw [wrap_i64 (by omega) (by omega)]; simp
    have e3 : shrI .u64 (l' k) 8 = l' k / 256 := shr64 (l' k) 8 (by omega)
    have e7 : IntKind.i64.wrap ((k : Int) + 1) = ((k + 1 : Nat) : Int) := by rw [wrap_i64 (by omega) (by omega)]; simp
    refine ret_let (ret_guard hg (ret_let (ret_let ?_)))
    simp only [e1]
    refine ret_guard hga (ret_let (ret_let (ret_let (ret_guard hg (ret_let (ret_let (ret_let ?_)))))))
    simp only [e2]
    refine ret_guard hgb (ret_let (ret_let ?_))
    simp only [Int.toNat_natCast, e3, e7, wrap_u8]
    refine ih _ ⟨k + 1, rfl, by omega, rfl, fun i hi => ?_, ?_⟩ (by simp; omega)
    · dsimp only
      by_cases e : i = 2 * k + 1
      · subst e; rw [updA_self]; omega
      · rw [updA_ne _ _ e]
        by_cases e' : i = 2 * k
        · subst e'; rw [updA_self]; omega
        · rw [updA_ne _ _ e']; exact hb i (by omega)
    · dsimp only
      rw [show 2 * (k + 1) = 2 * k + 1 + 1 by omega]
      simp only [val]
      rw [val_upd_ge (by omega), val_upd_ge (by omega), updA_self, updA_ne _ _ (by omega), updA_self, hv, show (D16 : Int) ^ k = 256 ^ (2 * k) by rw [Int.pow_mul]; rfl, Int.pow_succ]
      have e8 : l' k / 256 % 256 * (256 ^ (2 * k) * 256) = (l' k / 256 % 256 * 256) * 256 ^ (2 * k) := by rw [Int.mul_assoc, Int.mul_comm 256]
      have e9 : l' k = l' k % 256 + l' k / 256 % 256 * 256 := by unfold D16 at hd; omega
      rw [e8]
      conv => rhs; rw [e9]
      rw [Int.add_mul]; omega
  · have ek : k = 16 := by simp at hge; omega
    subst ek
    exact ret_some ⟨hb, hv.trans hl.val⟩

theorem ref_Add_ret' {x y : Nat → Int} (hx : ∀ i, i < 16 → 0 ≤ x i ∧ x i < D16) (hy : ∀ i, i < 16 → 0 ≤ y i ∧ y i < D16) : Ret (F_billetref01_Add rfull (x, y)) fun r => FR r ((val D16 16 x + val D16 16 y) % p25519) := by
  unfold F_billetref01_Add
  refine ret_let ?_
  refine ret_loop (fun s => ∃ k : Nat, s.1 = k ∧ k ≤ 16 ∧ s.2.2.1 = y ∧ ∀ i, s.2.1 i = if i < k then x i + y i else x i) (fun s => 16 - s.1.toNat) ⟨0, rfl, by omega, rfl, fun i => by simp⟩ (by simp) ?_
  rintro self ⟨k', l, y', d, ⟨⟩⟩ ⟨k, h1, hk5, h2, hl⟩ ih
  dsimp only at h1 h2 hl ih ⊢
  subst h1; subst h2
  refine ret_let (ret_sel (fun hlt => ?_) (fun hge => ?_))
  · have hltN : k < 16 := by have := of_decide_eq_true hlt; omega
    have hg := two_guard (a := (k : Int)) (n := 16) (by omega) (by omega)
    have hlk := hl k
    rw [if_neg (Nat.lt_irrefl _)] at hlk
    have b1 := hx k hltN; have b2 := hy k hltN
    have e1 : IntKind.u64.wrap (x k + y' k) = x k + y' k := wrap_u64_id (by omega) (by unfold D16 at *; omega)
    have e3 : IntKind.i64.wrap ((k : Int) + 1) = ((k + 1 : Nat) : Int) := by rw [wrap_i64 (by omega) (by omega)]; simp
    refine ret_guard hg (ret_let (ret_guard hg (ret_let (ret_let (ret_guard hg (ret_let (ret_let ?_)))))))
    simp only [Int.toNat_natCast, hlk, e1, e3]
    refine ih _ ⟨k + 1, rfl, by omega, rfl, fun i => ?_⟩ (by simp; omega)
    dsimp only
    by_cases e : i = k
    · subst e; rw [updA_self, if_pos (by omega)]
    · rw [updA_ne _ _ e, hl i]
      by_cases h : i < k
      · rw [if_pos h, if_pos (by omega)]
      · rw [if_neg h, if_neg (by omega)]
  · have ek : k = 16 := by simp at hge; omega
    subst ek
    have hv : val D16 16 l = val D16 16 x + val D16 16 y' := by
      rw [← val_add_fun]; exact val_congr fun i hi => by rw [hl i, if_pos hi]
    refine ret_bind (ref_full_ret (l := l) fun i hi => ?_) ?_
    · rw [hl i, if_pos hi]
      have b1 := hx i hi; have b2 := hy i hi
      unfold D16 at *; omega
    · intro r hr
      rw [hv] at hr
      exact ret_some hr

theorem ref_Add_ret {x y : Nat → Int} {m n : Int} (hx : FR x m) (hy : FR y n) : Ret (F_billetref01_Add rfull (x, y)) fun r => FR r ((m + n) % p25519) := by
  have := ref_Add_ret' hx.dig hy.dig
  rw [hx.val, hy.val] at this
  exact this

theorem ref_Sub_ret {x y : Nat → Int} {m n : Int} (hx : FR x m) (hy : FR y n) : Ret (F_billetref01_Sub (F_billetref01_Add rfull) F_billetref01_prime (x, y)) fun r => FR r ((m - n) % p25519) := by
  unfold F_billetref01_Sub
  refine ret_let (ret_let (ret_let ?_))
  refine ret_loop (fun s => ∃ j : Nat, s.2.1 = j ∧ s.2.2.1 = x ∧ s.2.2.2.1 = y ∧ LessI pdig y s.2.2.2.2.2.1 j s.1) (fun s => 16 - s.2.1.toNat) ⟨0, rfl, rfl, rfl, by omega, fun i hi => by omega, by simp [val], .inl rfl⟩ (by simp) ?_
  rintro self ⟨less, j', x', y', d, out, ⟨⟩⟩ ⟨j, h1, h2, h3, hI⟩ ih
  dsimp only at h1 h2 h3 hI ih ⊢
  subst h1; subst h2; subst h3
  refine ret_let (ret_sel (fun hlt => ?_) (fun hge => ?_))
  · have hltN : j < 16 := by have := of_decide_eq_true hlt; omega
    have hg := two_guard (a := (j : Int)) (n := 16) (by omega) (by omega)
    have hb := pdig_bd j
    have hyj := hy.dig j hltN
    obtain ⟨hs, hI'⟩ := hI.step hltN (by unfold D16; omega) hyj
    have hl01 := hI.l01
    have e1 : IntKind.u64.wrap (pdig j + 65536) = pdig j + 65536 := wrap_u64_id (by omega) (by omega)
    have e2 : IntKind.u64.wrap (pdig j + 65536 - y' j) = pdig j + 65536 - y' j := wrap_u64_id (by unfold D16 at hyj; omega) (by omega)
    have e4 : IntKind.u64.wrap (pdig j + 65536 - y' j - less) = pdig j + 65536 - y' j - less := wrap_u64_id (by omega) (by omega)
    have e5 : IntKind.u64.wrap (1 - (pdig j + 65536 - y' j - less) / D16) = 1 - (pdig j + 65536 - y' j - less) / D16 := wrap_u64_id (by unfold D16; omega) (by unfold D16; omega)
    have e6 : IntKind.i64.wrap ((j : Int) + 1) = ((j + 1 : Nat) : Int) := by rw [wrap_i64 (by omega) (by omega)]; simp
    rw [ref_prime j hltN]
    refine ret_let (ret_guard hg (ret_let (ret_let (ret_let (ret_let (ret_guard hg (ret_let (ret_let (ret_let (ret_let ?_))))))))))
    simp only [Int.toNat_natCast, e1, e2, e4, e5, e6, shr16, and16 hs.1 (show pdig j + 65536 - y' j - less < 18446744073709551616 by omega)]
    exact ih _ ⟨j + 1, rfl, rfl, rfl, hI'⟩ (by simp; omega)
  · have ej : j = 16 := by have := hI.jn; simp at hge; omega
    subst ej
    have hs := hI.sum
    rw [pdig_val, hy.val] at hs
    have hov := val_lt (B := D16) (by decide) hI.low
    have hn0 := hy.nonneg
    have hnl := hy.lt
    have p16 : D16 ^ 16 = 2 * p25519 + 38 := by decide
    rw [p16] at hs hov
    have hz : less = 0 := by have := hI.l01; rcases this with h | h; exact h; subst h; unfold p25519 at *; omega
    subst hz
    refine ret_bind (ref_Add_ret' hx.dig hI.low) ?_
    intro r hr
    refine ret_some ?_
    have e : val D16 16 x' + val D16 16 out = m - n + 1 * p25519 := by rw [hx.val]; omega
    rw [e, Int.add_mul_emod_self_right] at hr
    exact hr

structure MulI (t : Nat → Int) (x y : Nat → Int) (i k : Nat) : Prop where
  bd : ∀ j, j < 32 → 0 ≤ t j ∧ t j ≤ (16 * i + k) * 4294967296
  eq : val D16 32 t = val D16 i x * val D16 16 y + x i * D16 ^ i * val D16 k y

theorem ref_Mul_ret {x y : Nat → Int} {m n : Int} (hx : FR x m) (hy : FR y n) : Ret (F_billetref01_Mul rfull (x, y)) fun r => FR r (m * n % p25519) := by
  unfold F_billetref01_Mul
  refine ret_let (ret_let (ret_let ?_))
  refine ret_loop (fun s => ∃ i : Nat, s.1 = i ∧ i ≤ 16 ∧ s.2.1 = x ∧ s.2.2.1 = y ∧ MulI s.2.2.2.2.1 x y i 0) (fun s => 16 - s.1.toNat) ⟨0, rfl, by omega, rfl, rfl, ⟨fun j hj => by simp, by
    rw [val_pad (n := 0) (by omega) fun i _ _ => rfl]; simp [val]⟩⟩ (by simp) ?_
  rintro self ⟨i', x', y', d, t, ⟨⟩⟩ ⟨i, h1, hi, h2, h3, hI⟩ ih
  dsimp only at h1 h2 h3 hI ih ⊢
  subst h1; subst h2; subst h3
  refine ret_let (ret_sel (fun hlt => ?_) (fun hge => ?_))
  · have hltN : i < 16 := by have := of_decide_eq_true hlt; omega
    clear hlt
    have hgi := two_guard (a := (i : Int)) (n := 16) (by omega) (by omega)
    refine ret_loop (fun s => ∃ k : Nat, s.2.1 = k ∧ k ≤ 16 ∧ s.1 = i ∧ s.2.2.1 = x' ∧ s.2.2.2.1 = y' ∧ MulI s.2.2.2.2.2.1 x' y' i k) (fun s => 16 - s.2.1.toNat) ⟨0, rfl, by omega, rfl, rfl, rfl, hI⟩ (by simp) ?_
    rintro self' ⟨i1, k', x1, y1, d1, t1, ⟨⟩⟩ ⟨k, g1, hk, g2, g3, g4, hJ⟩ ih'
    dsimp only at g1 g2 g3 g4 hJ ih' ⊢
    subst g1; subst g2; subst g3; subst g4
    refine ret_let (ret_sel (fun hlt' => ?_) (fun hge' => ?_))
    · have hltM : k < 16 := by have := of_decide_eq_true hlt'; omega
      have hgk := two_guard (a := (k : Int)) (n := 16) (by omega) (by omega)
      have hgs := two_guard (a := ((i + k : Nat) : Int)) (n := 32) (by omega) (by omega)
      have bx := hx.dig i hltN; have by' := hy.dig k hltM
      have bt := hJ.bd (i + k) (by omega)
      have bm := mul_bd bx.1 (show x1 i ≤ 65535 by unfold D16 at bx; omega) by'.1 (show y1 k ≤ 65535 by unfold D16 at by'; omega)
      have e1 : IntKind.i64.wrap ((i : Int) + (k : Int)) = ((i + k : Nat) : Int) := by rw [wrap_i64 (by omega) (by omega)]; simp
      have e2 : IntKind.u64.wrap (x1 i * y1 k) = x1 i * y1 k := wrap_u64_id (by omega) (by omega)
      have e3 : IntKind.u64.wrap (t1 (i + k) + x1 i * y1 k) = t1 (i + k) + x1 i * y1 k := wrap_u64_id (by omega) (by omega)
      have e4 : IntKind.i64.wrap ((k : Int) + 1) = ((k + 1 : Nat) : Int) := by rw [wrap_i64 (by omega) (by omega)]; simp
      refine ret_let ?_
      simp only [e1]
      refine ret_guard hgs (ret_let (ret_guard hgi (ret_let (ret_guard hgk (ret_let (ret_let (ret_let (ret_guard hgs (ret_let (ret_let ?_))))))))))
      simp only [Int.toNat_natCast, e2, e3, e4]
      refine ih' _ ⟨k + 1, rfl, by omega, rfl, rfl, rfl, fun j hj => ?_, ?_⟩ (by simp; omega)
      · dsimp only
        by_cases e : j = i + k
        · subst e; rw [updA_self]; omega
        · rw [updA_ne _ _ e]; have := hJ.bd j hj; omega
      · dsimp only
        rw [val_upd (by omega), hJ.eq]
        have hvk : val D16 (k + 1) y1 = val D16 k y1 + y1 k * D16 ^ k := rfl
        rw [hvk, Int.mul_add, Int.pow_add]
        have e5 : x1 i * D16 ^ i * (y1 k * D16 ^ k) = x1 i * y1 k * (D16 ^ i * D16 ^ k) := by simp only [Int.mul_assoc, Int.mul_left_comm]
        rw [e5]
        have e6 : t1 (i + k) + x1 i * y1 k - t1 (i + k) = x1 i * y1 k := by omega
        rw [e6]; omega
    · have ek : k = 16 := by simp at hge'; omega
      subst ek
      have e4 : IntKind.i64.wrap ((i : Int) + 1) = ((i + 1 : Nat) : Int) := by rw [wrap_i64 (by omega) (by omega)]; simp
      refine ret_let ?_
      simp only [e4]
      refine ih _ ⟨i + 1, rfl, by omega, rfl, rfl, fun j hj => ?_, ?_⟩ (by simp; omega)
      · have := hJ.bd j hj; dsimp only; omega
      · dsimp only
        rw [hJ.eq]
        have hvk : val D16 (i + 1) x1 = val D16 i x1 + x1 i * D16 ^ i := rfl
        rw [hvk, Int.add_mul, show val D16 0 y1 = 0 from rfl]; omega
  · have ei : i = 16 := by simp at hge; omega
    subst ei
    clear ih
    have hq := hI.eq
    rw [hx.val, hy.val, show val D16 0 y' = 0 from rfl, Int.mul_zero, Int.add_zero] at hq
    refine ret_let (ret_let ?_)
    refine ret_loop (fun s => ∃ k : Nat, s.1 = k ∧ k ≤ 16 ∧ s.2.2.1 = t ∧ ∀ i, i < k → s.2.2.2.1 i = t i + 38 * t (16 + i)) (fun s => 16 - s.1.toNat) ⟨0, rfl, by omega, rfl, fun i hi => by omega⟩ (by simp) ?_
    rintro self' ⟨k', d', t', c, ⟨⟩⟩ ⟨k, g1, hk, g2, hc⟩ ih'
    dsimp only at g1 g2 hc ih' ⊢
    subst g1; subst g2
    refine ret_let (ret_sel (fun hlt' => ?_) (fun hge' => ?_))
    · have hltM : k < 16 := by have := of_decide_eq_true hlt'; omega
      have hg := two_guard (a := (k : Int)) (n := 32) (by omega) (by omega)
      have hg16 := two_guard (a := (k : Int)) (n := 16) (by omega) (by omega)
      have hg2 := two_guard (a := ((16 + k : Nat) : Int)) (n := 32) (by omega) (by omega)
      have b1 := hI.bd k (by omega); have b2 := hI.bd (16 + k) (by omega)
      have e1 : IntKind.i64.wrap ((k : Int) + 16) = ((16 + k : Nat) : Int) := by rw [wrap_i64 (by omega) (by omega)]; omega
      have e2 : IntKind.u64.wrap (38 * t' (16 + k)) = 38 * t' (16 + k) := wrap_u64_id (by omega) (by omega)
      have e3 : IntKind.u64.wrap (t' k + 38 * t' (16 + k)) = t' k + 38 * t' (16 + k) := wrap_u64_id (by omega) (by omega)
      have e4 : IntKind.i64.wrap ((k : Int) + 1) = ((k + 1 : Nat) : Int) := by rw [wrap_i64 (by omega) (by omega)]; simp
      refine ret_guard hg (ret_let (ret_let ?_))
      simp only [e1]
      refine ret_guard hg2 (ret_let (ret_let (ret_let (ret_guard hg16 (ret_let (ret_let ?_))))))
      simp only [Int.toNat_natCast, e2, e3, e4]
      refine ih' _ ⟨k + 1, rfl, by omega, rfl, fun i hi => ?_⟩ (by simp; omega)
      dsimp only
      by_cases e : i = k
      · subst e; rw [updA_self]
      · rw [updA_ne _ _ e]; exact hc i (by omega)
    · have ek : k = 16 := by simp at hge'; omega
      subst ek
      have hv : val D16 16 c = m * n - val D16 16 (fun i => t' (16 + i)) * (2 * p25519) := by
        have e1 : val D16 16 c = val D16 16 t' + 38 * val D16 16 (fun i => t' (16 + i)) := by
          have : val D16 16 c = val D16 16 (fun i => t' i + 38 * t' (16 + i)) := val_congr fun i hi => hc i hi
          rw [this, val_add_fun]
          congr 1
          have hm : ∀ n (f : Nat → Int), val D16 n (fun i => 38 * f i) = 38 * val D16 n f := by
            intro n f
            induction n with
            | zero => rfl
            | succ n ih => simp only [val]; rw [ih, Int.mul_add, Int.mul_assoc]
          exact hm 16 _
        have e2 := val_add (B := D16) 16 t' 16
        rw [show 16 + 16 = 32 from rfl, hq, show D16 ^ 16 = 2 * p25519 + 38 by decide, Int.add_mul] at e2
        rw [e1, Int.mul_comm _ (2 * p25519)]
        omega
      refine ret_bind (ref_full_ret (l := c) fun i hi => ?_) ?_
      · rw [hc i hi]
        have b1 := hI.bd i (by omega); have b2 := hI.bd (16 + i) (by omega)
        omega
      · intro r hr
        rw [hv, ← Int.mul_assoc, Int.sub_mul_emod_self_right] at hr
        exact ret_some hr

noncomputable abbrev rmul := F_billetref01_Mul rfull

theorem eInv_top' : eInv / 2 ^ 254 = 1 := by rw [eInv_eq]

theorem ref_Inv_ret {x : Nat → Int} {m : Int} (hx : FR x m) : Ret (F_billetref01_Inv rmul x) fun r => FR r (invS m) := by
  unfold F_billetref01_Inv
  refine ret_let (ret_let ?_)
  refine ret_loop (fun s => ∃ k : Nat, s.1 = (k : Int) - 1 ∧ k ≤ 254 ∧ s.2.1 = x ∧ FR s.2.2.2.1 (m ^ (eInv / 2 ^ k) % p25519)) (fun s => (s.1 + 1).toNat) ⟨254, rfl, by omega, rfl, ?_⟩ (by simp) ?_
  · dsimp only
    rw [eInv_top', Int.pow_one, Int.emod_eq_of_lt hx.nonneg hx.lt]
    exact hx
  rintro self ⟨k', x', d, r, ⟨⟩⟩ ⟨k, h1, hk, h3, hr⟩ ih
  dsimp only at h1 h3 hr ih ⊢
  subst h1; subst h3
  refine ret_let (ret_sel (fun hlt => ?_) (fun hge => ?_))
  · obtain ⟨i, rfl⟩ : ∃ i, k = i + 1 := ⟨k - 1, by have := of_decide_eq_true hlt; omega⟩
    have hi : i < 255 := by omega
    have e0 : ((i + 1 : Nat) : Int) - 1 = i := by omega
    simp only [e0] at ih ⊢
    have e3 : IntKind.i64.wrap ((i : Int) - 1) = (i : Int) - 1 := wrap_i64 (by omega) (by omega)
    refine ret_bind (ref_Mul_ret hr hr) ?_
    intro y hy
    rw [pow_sq_mod] at hy
    refine ret_bind (M := fun u => u.1 = decide (¬(i = 2 ∨ i = 4))) ?_ ?_
    · by_cases c2 : i = 2
      · subst c2; exact ⟨_, rfl, by decide⟩
      · by_cases c4 : i = 4
        · subst c4; exact ⟨_, rfl, by decide⟩
        · have d2 : ((i : Int) != 2) = true := by simp; omega
          have d4 : ((i : Int) != 4) = true := by simp; omega
          refine ret_let ?_
          rw [d2]
          refine ret_let ?_
          rw [d4]
          exact ret_some (by simp [c2, c4])
    · rintro ⟨b, ⟨⟩⟩ hb
      dsimp only at hb ⊢
      subst hb
      have hbits := eInv_bits i hi
      refine ret_sel (fun hc => ?_) (fun hc => ?_)
      · have hc : ¬(i = 2 ∨ i = 4) := of_decide_eq_true hc
        rw [if_neg hc] at hbits
        refine ret_bind (ref_Mul_ret hy hx) ?_
        intro z hz
        rw [pow_mul_mod, ← hbits] at hz
        refine ret_let ?_
        simp only [e3]
        exact ih _ ⟨i, rfl, by omega, rfl, hz⟩ (by simp)
      · have hc : i = 2 ∨ i = 4 := by have := of_decide_eq_false hc; omega
        rw [if_pos hc, Nat.add_zero] at hbits
        rw [← hbits] at hy
        refine ret_let ?_
        simp only [e3]
        exact ih _ ⟨i, rfl, by omega, rfl, hy⟩ (by simp)
  · have ek : k = 0 := by have := of_decide_eq_false hge; omega
    subst ek
    rw [Nat.pow_zero, Nat.div_one] at hr
    exact ret_some hr

end Go.Sx
