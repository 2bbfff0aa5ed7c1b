/- The functions of the given program as Lean functions. Printed by a program of this session. -/
import Derived.Test.YtbfkfobfhjgphaaFnD0
set_option linter.unusedVariables false
set_option maxRecDepth 100000
namespace Go.Proofs.Ytbfkfobfhjgphaa.Fn
open Go Go.Pev Go.Proofs
/-- soundservice/sample.is -/
noncomputable def f132 (k : Nat) (x : Int) : Option (Bool) :=
  bif (decide (x ≥ (-8388608 : Int))) then
    some (decide (x ≤ (8388607 : Int)))
  else
    some false
/-- soundservice/sample.Valid -/
noncomputable def L81_4 (k : Nat) {R : Type} (K0 : Bool → Option R) (K1 : Unit → Option R) (y : List (Int) × Int × Int) (next : (List (Int) × Int × Int) → Option R) : Option R :=
  bif (decide (y.2.2 < y.2.1)) then
    bif (decide (0 ≤ y.2.2) && decide (y.2.2 < ((y.1).length : Int))) then
      Option.bind (f132 k ((y.1).getD (y.2.2).toNat (0 : Int))) fun r1 =>
      bif (!r1) then
        K0 false
      else
        next (y.1, y.2.1, (IntKind.wrap .i64 (y.2.2 + (1 : Int))))
    else
      none
  else
    K1 ()
noncomputable def f81 (k : Nat) (x : Int × List (Int)) : Option (Bool) :=
  bif (decide (x.1 < (1 : Int))) then
    some false
  else
  bif (decide (x.1 > (8 : Int))) then
    some false
  else
  bif (x.1 == 0) then
    none
  else
  bif ((Int.tmod (((x.2).length : Int)) x.1) != (0 : Int)) then
    some false
  else
  bif (x.1 == 0) then
    none
  else
  bif (decide ((IntKind.wrap .i64 (Int.tdiv (((x.2).length : Int)) x.1)) > (65536 : Int))) then
    some false
  else
    loopC k (L81_4 k
      (fun z2 =>
        some z2)
      (fun z3 =>
        some true))
      (x.2, (((x.2).length : Int)), (0 : Int))
/-- soundservice/ratio.divisor -/
noncomputable def L159_1 (k : Nat) {R : Type} (K0 : Int → Option R) (y : Int × Int) (next : (Int × Int) → Option R) : Option R :=
  bif (y.2 != (0 : Int)) then
    bif (y.2 == 0) then
      none
    else
      next (y.2, (Int.tmod y.1 y.2))
  else
    K0 y.1
noncomputable def f159 (k : Nat) (x : Int × Int) : Option (Int) :=
  loopC k (L159_1 k
    (fun z1 =>
      some z1))
    x
/-- soundservice/ratio.Valid -/
noncomputable def f135 (k : Nat) (x : Int × Int) : Option (Bool) :=
  bif (decide (x.1 ≥ (1 : Int))) then
    bif (decide (x.2 ≥ (1 : Int))) then
      bif (decide (x.1 ≤ (68719476736 : Int))) then
        bif (decide (x.2 ≤ (68719476736 : Int))) then
          Option.bind (f159 k x) fun r1 =>
          some (r1 == (1 : Int))
        else
          some false
      else
        some false
    else
      some false
  else
    some false
/-- soundservice/phase.tuned -/
noncomputable def f136 (k : Nat) (x : Int) : Option (Bool) :=
  bif (decide (x ≥ (-4096 : Int))) then
    some (decide (x ≤ (4096 : Int)))
  else
    some false
/-- soundservice/phase.parts -/
noncomputable def f137 (k : Nat) (x : Int × Int × Int × Int × Int) : Option (Int) :=
  some (IntKind.wrap .i64 (x.2.1 * (65536 : Int)))
/-- soundservice/phase.Valid -/
noncomputable def f85 (k : Nat) (x : Int × Int × Int × Int × Int) : Option (Bool) :=
  Option.bind (f135 k (x.1, x.2.1)) fun r1 =>
  bif r1 then
    bif (decide (x.1 ≤ (768000 : Int))) then
      bif (decide (x.2.1 ≤ (768000 : Int))) then
        Option.bind (f136 k x.2.2.1) fun r2 =>
        bif r2 then
          bif (decide (x.2.2.2.1 ≥ (0 : Int))) then
            bif (decide (x.2.2.2.1 ≤ (1125899906842624 : Int))) then
              bif (decide (x.2.2.2.2 ≥ (0 : Int))) then
                Option.bind (f137 k x) fun r3 =>
                some (decide (x.2.2.2.2 < r3))
              else
                some false
            else
              some false
          else
            some false
        else
          some false
      else
        some false
    else
      some false
  else
    some false
/-- soundservice/resample.rest -/
noncomputable def f86 (k : Nat) (x : Int × Int × Int × Int × Int × Int × List (Int)) : Option (Int × List (Int)) :=
  some (x.1, x.2.2.2.2.2.2)
/-- soundservice/resample.Valid -/
noncomputable def f28 (k : Nat) (x : Int × Int × Int × Int × Int × Int × List (Int)) : Option (Bool) :=
  Option.bind (f85 k (x.2.1, x.2.2.1, x.2.2.2.1, x.2.2.2.2.1, x.2.2.2.2.2.1)) fun r1 =>
  bif r1 then
    Option.bind (f86 k x) fun r2 =>
    Option.bind (f81 k r2) fun r3 =>
    some r3
  else
    some false
/-- soundservice/resample.Waiting -/
noncomputable def f30 (k : Nat) (x : Int × Int × Int × Int × Int × Int × List (Int)) : Option (Int) :=
  Option.bind (f28 k x) fun r1 =>
  bif (!r1) then
    some (0 : Int)
  else
  bif (x.1 == 0) then
    none
  else
    some (IntKind.wrap .i64 (Int.tdiv (((x.2.2.2.2.2.2).length : Int)) x.1))
/-- soundservice/phase.New -/
noncomputable def f89 (k : Nat) (x : Int × Int) : Option ((Int × Int × Int × Int × Int) × Int) :=
  Option.bind (f85 k (x.1, x.2, (0 : Int), (0 : Int), (0 : Int))) fun r1 =>
  bif (!r1) then
    some (((0 : Int), (0 : Int), (0 : Int), (0 : Int), (0 : Int)), (1 : Int))
  else
    some ((x.1, x.2, (0 : Int), (0 : Int), (0 : Int)), (0 : Int))
/-- soundservice/resample.New -/
noncomputable def f32 (k : Nat) (x : Int × Int × Int) : Option ((Int × Int × Int × Int × Int × Int × List (Int)) × Int) :=
  Option.bind (f89 k x.2) fun r1 =>
  bif (r1.2 != (0 : Int)) then
    some (((0 : Int), (0 : Int), (0 : Int), (0 : Int), (0 : Int), (0 : Int), []), (1 : Int))
  else
    Option.bind (f28 k (x.1, r1.1.1, r1.1.2.1, r1.1.2.2.1, r1.1.2.2.2.1, r1.1.2.2.2.2, [])) fun r2 =>
    bif (!r2) then
      some (((0 : Int), (0 : Int), (0 : Int), (0 : Int), (0 : Int), (0 : Int), []), (1 : Int))
    else
      some ((x.1, r1.1.1, r1.1.2.1, r1.1.2.2.1, r1.1.2.2.2.1, r1.1.2.2.2.2, []), (0 : Int))
/-- soundservice/resample.check -/
noncomputable def f90 (k : Nat) (x : (Int × Int × Int × Int × Int × Int × List (Int)) × Int) : Option (Int) :=
  Option.bind (f28 k x.1) fun r1 =>
  bif (!r1) then
    some (1 : Int)
  else
  bif (decide (x.2 < (0 : Int))) then
    some (2 : Int)
  else
  bif (decide (x.2 > (65536 : Int))) then
    some (2 : Int)
  else
    some (0 : Int)
/-- soundservice/phase.check -/
noncomputable def f138 (k : Nat) (x : (Int × Int × Int × Int × Int) × Int) : Option (Int) :=
  Option.bind (f85 k x.1) fun r1 =>
  bif (!r1) then
    some (1 : Int)
  else
  bif (decide (x.2 < (0 : Int))) then
    some (2 : Int)
  else
  bif (decide (x.2 > (65536 : Int))) then
    some (2 : Int)
  else
    some (0 : Int)
/-- soundservice/phase.ahead -/
noncomputable def f160 (k : Nat) (x : (Int × Int × Int × Int × Int) × Int) : Option (Int) :=
  some (IntKind.wrap .i64 (x.1.2.2.2.2 + (IntKind.wrap .i64 ((IntKind.wrap .i64 (x.2 * x.1.1)) * (IntKind.wrap .i64 ((65536 : Int) + x.1.2.2.1))))))
/-- soundservice/phase.At -/
noncomputable def f141 (k : Nat) (x : (Int × Int × Int × Int × Int) × Int) : Option (Int × Int × Int) :=
  Option.bind (f138 k x) fun r1 =>
  bif (r1 != (0 : Int)) then
    some ((0 : Int), (0 : Int), r1)
  else
    Option.bind (f160 k x) fun r2 =>
    Option.bind (f137 k x.1) fun r3 =>
    bif (r3 == 0) then
      none
    else
      Option.bind (f137 k x.1) fun r4 =>
      bif (r4 == 0) then
        none
      else
        some ((IntKind.wrap .i64 (x.1.2.2.2.1 + (IntKind.wrap .i64 (Int.tdiv r2 r3)))), (Int.tmod r2 r4), (0 : Int))
/-- soundservice/phase.Advance -/
noncomputable def f140 (k : Nat) (x : (Int × Int × Int × Int × Int) × Int) : Option ((Int × Int × Int × Int × Int) × Int) :=
  Option.bind (f141 k x) fun r1 =>
  bif (r1.2.2 == (0 : Int)) then
    bif (decide (r1.1 > (1125899906842624 : Int))) then
      bif ((2 : Int) != (0 : Int)) then
        some (((0 : Int), (0 : Int), (0 : Int), (0 : Int), (0 : Int)), (2 : Int))
      else
        some ((x.1.1, x.1.2.1, x.1.2.2.1, r1.1, r1.2.1), (0 : Int))
    else
    bif (r1.2.2 != (0 : Int)) then
      some (((0 : Int), (0 : Int), (0 : Int), (0 : Int), (0 : Int)), r1.2.2)
    else
      some ((x.1.1, x.1.2.1, x.1.2.2.1, r1.1, r1.2.1), (0 : Int))
  else
  bif (r1.2.2 != (0 : Int)) then
    some (((0 : Int), (0 : Int), (0 : Int), (0 : Int), (0 : Int)), r1.2.2)
  else
    some ((x.1.1, x.1.2.1, x.1.2.2.1, r1.1, r1.2.1), (0 : Int))
/-- soundservice/resample.frame -/
noncomputable def f142 (k : Nat) (x : (Int × Int × Int × Int × Int × Int × List (Int)) × Int) : Option (List (Int)) :=
  bif (decide (0 ≤ (if (IntKind.wrap .i64 ((((x.1.2.2.2.2.2.2).length : Int)) - x.1.1)) < (IntKind.wrap .i64 (x.2 * x.1.1)) then (IntKind.wrap .i64 ((((x.1.2.2.2.2.2.2).length : Int)) - x.1.1)) else (IntKind.wrap .i64 (x.2 * x.1.1)))) && decide ((if (IntKind.wrap .i64 ((((x.1.2.2.2.2.2.2).length : Int)) - x.1.1)) < (IntKind.wrap .i64 (x.2 * x.1.1)) then (IntKind.wrap .i64 ((((x.1.2.2.2.2.2.2).length : Int)) - x.1.1)) else (IntKind.wrap .i64 (x.2 * x.1.1))) ≤ (IntKind.wrap .i64 ((if (IntKind.wrap .i64 ((((x.1.2.2.2.2.2.2).length : Int)) - x.1.1)) < (IntKind.wrap .i64 (x.2 * x.1.1)) then (IntKind.wrap .i64 ((((x.1.2.2.2.2.2.2).length : Int)) - x.1.1)) else (IntKind.wrap .i64 (x.2 * x.1.1))) + x.1.1))) && decide ((IntKind.wrap .i64 ((if (IntKind.wrap .i64 ((((x.1.2.2.2.2.2.2).length : Int)) - x.1.1)) < (IntKind.wrap .i64 (x.2 * x.1.1)) then (IntKind.wrap .i64 ((((x.1.2.2.2.2.2.2).length : Int)) - x.1.1)) else (IntKind.wrap .i64 (x.2 * x.1.1))) + x.1.1)) ≤ (IntKind.wrap .i64 ((if (IntKind.wrap .i64 ((((x.1.2.2.2.2.2.2).length : Int)) - x.1.1)) < (IntKind.wrap .i64 (x.2 * x.1.1)) then (IntKind.wrap .i64 ((((x.1.2.2.2.2.2.2).length : Int)) - x.1.1)) else (IntKind.wrap .i64 (x.2 * x.1.1))) + x.1.1))) && decide ((IntKind.wrap .i64 ((if (IntKind.wrap .i64 ((((x.1.2.2.2.2.2.2).length : Int)) - x.1.1)) < (IntKind.wrap .i64 (x.2 * x.1.1)) then (IntKind.wrap .i64 ((((x.1.2.2.2.2.2.2).length : Int)) - x.1.1)) else (IntKind.wrap .i64 (x.2 * x.1.1))) + x.1.1)) ≤ (((x.1.2.2.2.2.2.2).length : Int)))) then
    some (((x.1.2.2.2.2.2.2).take ((IntKind.wrap .i64 ((if (IntKind.wrap .i64 ((((x.1.2.2.2.2.2.2).length : Int)) - x.1.1)) < (IntKind.wrap .i64 (x.2 * x.1.1)) then (IntKind.wrap .i64 ((((x.1.2.2.2.2.2.2).length : Int)) - x.1.1)) else (IntKind.wrap .i64 (x.2 * x.1.1))) + x.1.1))).toNat).drop ((if (IntKind.wrap .i64 ((((x.1.2.2.2.2.2.2).length : Int)) - x.1.1)) < (IntKind.wrap .i64 (x.2 * x.1.1)) then (IntKind.wrap .i64 ((((x.1.2.2.2.2.2.2).length : Int)) - x.1.1)) else (IntKind.wrap .i64 (x.2 * x.1.1)))).toNat)
  else
    none
/-- soundservice/resample.produce -/
noncomputable def L92_13 (k : Nat) {R : Type} (K0 : (Int × Int × Int × (Int × Int × Int × Int × Int × Int × List (Int)) × Int × (Int × Int × Int × Int × Int × Int) × (Int × Int × Int × Int × Int) × Int × List (Int)) → Option R) (y : Int × Int × List (Int) × List (Int) × Int × Int × Int × Int × (Int × Int × Int × Int × Int × Int × List (Int)) × Int × (Int × Int × Int × Int × Int × Int) × (Int × Int × Int × Int × Int) × Int × List (Int)) (next : (Int × Int × List (Int) × List (Int) × Int × Int × Int × Int × (Int × Int × Int × Int × Int × Int × List (Int)) × Int × (Int × Int × Int × Int × Int × Int) × (Int × Int × Int × Int × Int) × Int × List (Int)) → Option R) : Option R :=
  bif (decide (y.2.2.2.2.2.2.2.1 < y.2.2.2.2.2.2.1)) then
    bif (decide (0 ≤ y.2.2.2.2.2.2.2.1) && decide (y.2.2.2.2.2.2.2.1 < ((y.2.2.1).length : Int))) then
      bif (decide (0 ≤ y.2.2.2.2.2.2.2.1) && decide (y.2.2.2.2.2.2.2.1 < ((y.2.2.2.1).length : Int))) then
        bif (y.1 == 0) then
          none
        else
        bif (y.1 == 0) then
          none
        else
        bif (decide ((Int.tmod (IntKind.wrap .i64 ((IntKind.wrap .i64 ((IntKind.wrap .i64 ((IntKind.wrap .i64 ((y.2.2.1).getD (y.2.2.2.2.2.2.2.1).toNat (0 : Int))) * (IntKind.wrap .i64 (y.1 - y.2.1)))) + (IntKind.wrap .i64 ((IntKind.wrap .i64 ((y.2.2.2.1).getD (y.2.2.2.2.2.2.2.1).toNat (0 : Int))) * y.2.1)))) + (IntKind.wrap .i64 (Int.tdiv y.1 (2 : Int))))) y.1) < (0 : Int))) then
          bif (decide (((y.2.2.2.2.2.2.2.2.2.2.2.2.2).length + (([(IntKind.wrap .i32 (IntKind.wrap .i64 ((IntKind.wrap .i64 (Int.tdiv (IntKind.wrap .i64 ((IntKind.wrap .i64 ((IntKind.wrap .i64 ((IntKind.wrap .i64 ((y.2.2.1).getD (y.2.2.2.2.2.2.2.1).toNat (0 : Int))) * (IntKind.wrap .i64 (y.1 - y.2.1)))) + (IntKind.wrap .i64 ((IntKind.wrap .i64 ((y.2.2.2.1).getD (y.2.2.2.2.2.2.2.1).toNat (0 : Int))) * y.2.1)))) + (IntKind.wrap .i64 (Int.tdiv y.1 (2 : Int))))) y.1)) - (1 : Int))))])).length) * 4 ≤ maxBytes) && decide ((y.2.2.2.2.2.2.2.2.2.2.2.2.2).length + (([(IntKind.wrap .i32 (IntKind.wrap .i64 ((IntKind.wrap .i64 (Int.tdiv (IntKind.wrap .i64 ((IntKind.wrap .i64 ((IntKind.wrap .i64 ((IntKind.wrap .i64 ((y.2.2.1).getD (y.2.2.2.2.2.2.2.1).toNat (0 : Int))) * (IntKind.wrap .i64 (y.1 - y.2.1)))) + (IntKind.wrap .i64 ((IntKind.wrap .i64 ((y.2.2.2.1).getD (y.2.2.2.2.2.2.2.1).toNat (0 : Int))) * y.2.1)))) + (IntKind.wrap .i64 (Int.tdiv y.1 (2 : Int))))) y.1)) - (1 : Int))))])).length ≤ 9223372036854775807)) then
            next (y.1, y.2.1, y.2.2.1, y.2.2.2.1, y.2.2.2.2.1, y.2.2.2.2.2.1, y.2.2.2.2.2.2.1, (IntKind.wrap .i64 (y.2.2.2.2.2.2.2.1 + (1 : Int))), y.2.2.2.2.2.2.2.2.1, y.2.2.2.2.2.2.2.2.2.1, y.2.2.2.2.2.2.2.2.2.2.1, y.2.2.2.2.2.2.2.2.2.2.2.1, y.2.2.2.2.2.2.2.2.2.2.2.2.1, (y.2.2.2.2.2.2.2.2.2.2.2.2.2 ++ ([(IntKind.wrap .i32 (IntKind.wrap .i64 ((IntKind.wrap .i64 (Int.tdiv (IntKind.wrap .i64 ((IntKind.wrap .i64 ((IntKind.wrap .i64 ((IntKind.wrap .i64 ((y.2.2.1).getD (y.2.2.2.2.2.2.2.1).toNat (0 : Int))) * (IntKind.wrap .i64 (y.1 - y.2.1)))) + (IntKind.wrap .i64 ((IntKind.wrap .i64 ((y.2.2.2.1).getD (y.2.2.2.2.2.2.2.1).toNat (0 : Int))) * y.2.1)))) + (IntKind.wrap .i64 (Int.tdiv y.1 (2 : Int))))) y.1)) - (1 : Int))))])))
          else
            none
        else
        bif (decide (((y.2.2.2.2.2.2.2.2.2.2.2.2.2).length + (([(IntKind.wrap .i32 (IntKind.wrap .i64 (Int.tdiv (IntKind.wrap .i64 ((IntKind.wrap .i64 ((IntKind.wrap .i64 ((IntKind.wrap .i64 ((y.2.2.1).getD (y.2.2.2.2.2.2.2.1).toNat (0 : Int))) * (IntKind.wrap .i64 (y.1 - y.2.1)))) + (IntKind.wrap .i64 ((IntKind.wrap .i64 ((y.2.2.2.1).getD (y.2.2.2.2.2.2.2.1).toNat (0 : Int))) * y.2.1)))) + (IntKind.wrap .i64 (Int.tdiv y.1 (2 : Int))))) y.1)))])).length) * 4 ≤ maxBytes) && decide ((y.2.2.2.2.2.2.2.2.2.2.2.2.2).length + (([(IntKind.wrap .i32 (IntKind.wrap .i64 (Int.tdiv (IntKind.wrap .i64 ((IntKind.wrap .i64 ((IntKind.wrap .i64 ((IntKind.wrap .i64 ((y.2.2.1).getD (y.2.2.2.2.2.2.2.1).toNat (0 : Int))) * (IntKind.wrap .i64 (y.1 - y.2.1)))) + (IntKind.wrap .i64 ((IntKind.wrap .i64 ((y.2.2.2.1).getD (y.2.2.2.2.2.2.2.1).toNat (0 : Int))) * y.2.1)))) + (IntKind.wrap .i64 (Int.tdiv y.1 (2 : Int))))) y.1)))])).length ≤ 9223372036854775807)) then
          next (y.1, y.2.1, y.2.2.1, y.2.2.2.1, y.2.2.2.2.1, y.2.2.2.2.2.1, y.2.2.2.2.2.2.1, (IntKind.wrap .i64 (y.2.2.2.2.2.2.2.1 + (1 : Int))), y.2.2.2.2.2.2.2.2.1, y.2.2.2.2.2.2.2.2.2.1, y.2.2.2.2.2.2.2.2.2.2.1, y.2.2.2.2.2.2.2.2.2.2.2.1, y.2.2.2.2.2.2.2.2.2.2.2.2.1, (y.2.2.2.2.2.2.2.2.2.2.2.2.2 ++ ([(IntKind.wrap .i32 (IntKind.wrap .i64 (Int.tdiv (IntKind.wrap .i64 ((IntKind.wrap .i64 ((IntKind.wrap .i64 ((IntKind.wrap .i64 ((y.2.2.1).getD (y.2.2.2.2.2.2.2.1).toNat (0 : Int))) * (IntKind.wrap .i64 (y.1 - y.2.1)))) + (IntKind.wrap .i64 ((IntKind.wrap .i64 ((y.2.2.2.1).getD (y.2.2.2.2.2.2.2.1).toNat (0 : Int))) * y.2.1)))) + (IntKind.wrap .i64 (Int.tdiv y.1 (2 : Int))))) y.1)))])))
        else
          none
      else
        none
    else
      none
  else
    K0 (y.1, y.2.2.2.2.1, y.2.2.2.2.2.1, y.2.2.2.2.2.2.2.2)
noncomputable def L92_7 (k : Nat) {R : Type} (K0 : ((Int × Int × Int × Int × Int × Int × List (Int)) × Int × (Int × Int × Int × Int × Int × Int) × (Int × Int × Int × Int × Int) × Int × List (Int)) → Option R) (y : Int × Int × Int × (Int × Int × Int × Int × Int × Int × List (Int)) × Int × (Int × Int × Int × Int × Int × Int) × (Int × Int × Int × Int × Int) × Int × List (Int)) (next : (Int × Int × Int × (Int × Int × Int × Int × Int × Int × List (Int)) × Int × (Int × Int × Int × Int × Int × Int) × (Int × Int × Int × Int × Int) × Int × List (Int)) → Option R) : Option R :=
  bif (decide (y.2.2.1 < y.2.1)) then
    Option.bind (f141 k ((y.2.2.2.1.2.1, y.2.2.2.1.2.2.1, y.2.2.2.1.2.2.2.1, y.2.2.2.1.2.2.2.2.1, y.2.2.2.1.2.2.2.2.2.1), y.2.2.1)) fun r6 =>
    Option.bind (f142 k (y.2.2.2.1, (IntKind.wrap .i64 (r6.1 - y.2.2.2.1.2.2.2.2.1)))) fun r7 =>
    Option.bind (f142 k (y.2.2.2.1, (IntKind.wrap .i64 ((IntKind.wrap .i64 (r6.1 - y.2.2.2.1.2.2.2.2.1)) + (1 : Int))))) fun r8 =>
    loopC k (L92_13 k
      (fun z9 =>
        next (z9.1, z9.2.1, (IntKind.wrap .i64 (z9.2.2.1 + (1 : Int))), z9.2.2.2)))
      (y.1, r6.2.1, r7, r8, y.2.1, y.2.2.1, (((r7).length : Int)), (0 : Int), y.2.2.2)
  else
    K0 y.2.2.2
noncomputable def f92 (k : Nat) (x : (Int × Int × Int × Int × Int × Int × List (Int)) × Int) : Option ((Int × List (Int)) × (Int × Int × Int × Int × Int × Int × List (Int)) × Int) :=
  Option.bind (f140 k ((x.1.2.1, x.1.2.2.1, x.1.2.2.2.1, x.1.2.2.2.2.1, x.1.2.2.2.2.2.1), x.2)) fun r1 =>
  bif (r1.2 != (0 : Int)) then
    some (((0 : Int), []), ((0 : Int), (0 : Int), (0 : Int), (0 : Int), (0 : Int), (0 : Int), []), r1.2)
  else
  bif (decide (0 ≤ (0 : Int)) && decide ((0 : Int) ≤ (IntKind.wrap .i64 (x.2 * x.1.1))) && decide ((IntKind.wrap .i64 (x.2 * x.1.1)) * ((4 : Nat) : Int) ≤ (maxBytes : Int)) && true && true) then
    loopC k (L92_7 k
      (fun z10 =>
        bif (decide (0 ≤ (if (IntKind.wrap .i64 ((IntKind.wrap .i64 (z10.2.2.2.1.2.2.2.1 - z10.1.2.2.2.2.1)) * z10.1.1)) < (((z10.1.2.2.2.2.2.2).length : Int)) then (IntKind.wrap .i64 ((IntKind.wrap .i64 (z10.2.2.2.1.2.2.2.1 - z10.1.2.2.2.2.1)) * z10.1.1)) else (((z10.1.2.2.2.2.2.2).length : Int)))) && decide ((if (IntKind.wrap .i64 ((IntKind.wrap .i64 (z10.2.2.2.1.2.2.2.1 - z10.1.2.2.2.2.1)) * z10.1.1)) < (((z10.1.2.2.2.2.2.2).length : Int)) then (IntKind.wrap .i64 ((IntKind.wrap .i64 (z10.2.2.2.1.2.2.2.1 - z10.1.2.2.2.2.1)) * z10.1.1)) else (((z10.1.2.2.2.2.2.2).length : Int))) ≤ (((z10.1.2.2.2.2.2.2).length : Int))) && decide ((((z10.1.2.2.2.2.2.2).length : Int)) ≤ (((z10.1.2.2.2.2.2.2).length : Int))) && decide ((((z10.1.2.2.2.2.2.2).length : Int)) ≤ (((z10.1.2.2.2.2.2.2).length : Int)))) then
          Option.bind (f143 k (((z10.1.2.2.2.2.2.2).take ((((z10.1.2.2.2.2.2.2).length : Int))).toNat).drop ((if (IntKind.wrap .i64 ((IntKind.wrap .i64 (z10.2.2.2.1.2.2.2.1 - z10.1.2.2.2.2.1)) * z10.1.1)) < (((z10.1.2.2.2.2.2.2).length : Int)) then (IntKind.wrap .i64 ((IntKind.wrap .i64 (z10.2.2.2.1.2.2.2.1 - z10.1.2.2.2.2.1)) * z10.1.1)) else (((z10.1.2.2.2.2.2.2).length : Int)))).toNat)) fun r11 =>
          some (z10.2.2.2.2, (z10.1.1, z10.2.2.2.1.1, z10.2.2.2.1.2.1, z10.2.2.2.1.2.2.1, z10.2.2.2.1.2.2.2.1, z10.2.2.2.1.2.2.2.2, r11), (0 : Int))
        else
          none))
      ((IntKind.wrap .i64 (x.1.2.2.1 * (65536 : Int))), x.2, (0 : Int), x.1, (0 : Int), ((0 : Int), (0 : Int), (0 : Int), (0 : Int), (0 : Int), (0 : Int)), r1.1, x.1.1, (List.replicate ((0 : Int)).toNat (0 : Int)))
  else
    none
/-- soundservice/resample.Finish -/
noncomputable def f36 (k : Nat) (x : (Int × Int × Int × Int × Int × Int × List (Int)) × Int) : Option ((Int × List (Int)) × (Int × Int × Int × Int × Int × Int × List (Int)) × Int) :=
  Option.bind (f90 k x) fun r1 =>
  bif (r1 != (0 : Int)) then
    some (((0 : Int), []), ((0 : Int), (0 : Int), (0 : Int), (0 : Int), (0 : Int), (0 : Int), []), r1)
  else
  bif (x.1.1 == 0) then
    none
  else
  bif (decide ((IntKind.wrap .i64 ((IntKind.wrap .i64 ((IntKind.wrap .i64 (Int.tdiv (((x.1.2.2.2.2.2.2).length : Int)) x.1.1)) * (IntKind.wrap .i64 (x.1.2.2.1 * (65536 : Int))))) - x.1.2.2.2.2.2.1)) > (0 : Int))) then
    bif ((IntKind.wrap .i64 (x.1.2.1 * (IntKind.wrap .i64 ((65536 : Int) + x.1.2.2.2.1)))) == 0) then
      none
    else
      Option.bind (f92 k (x.1, (if (IntKind.wrap .i64 (Int.tdiv (IntKind.wrap .i64 ((IntKind.wrap .i64 ((IntKind.wrap .i64 ((IntKind.wrap .i64 ((IntKind.wrap .i64 (Int.tdiv (((x.1.2.2.2.2.2.2).length : Int)) x.1.1)) * (IntKind.wrap .i64 (x.1.2.2.1 * (65536 : Int))))) - x.1.2.2.2.2.2.1)) + (IntKind.wrap .i64 (x.1.2.1 * (IntKind.wrap .i64 ((65536 : Int) + x.1.2.2.2.1)))))) - (1 : Int))) (IntKind.wrap .i64 (x.1.2.1 * (IntKind.wrap .i64 ((65536 : Int) + x.1.2.2.2.1)))))) < x.2 then (IntKind.wrap .i64 (Int.tdiv (IntKind.wrap .i64 ((IntKind.wrap .i64 ((IntKind.wrap .i64 ((IntKind.wrap .i64 ((IntKind.wrap .i64 (Int.tdiv (((x.1.2.2.2.2.2.2).length : Int)) x.1.1)) * (IntKind.wrap .i64 (x.1.2.2.1 * (65536 : Int))))) - x.1.2.2.2.2.2.1)) + (IntKind.wrap .i64 (x.1.2.1 * (IntKind.wrap .i64 ((65536 : Int) + x.1.2.2.2.1)))))) - (1 : Int))) (IntKind.wrap .i64 (x.1.2.1 * (IntKind.wrap .i64 ((65536 : Int) + x.1.2.2.2.1)))))) else x.2))) fun r2 =>
      some r2
  else
    Option.bind (f92 k (x.1, (0 : Int))) fun r3 =>
    some r3
/-- slices.Concat[[]int32,int32] -/
noncomputable def L82_3 (k : Nat) {R : Type} (K0 : (List (List (Int)) × Int) → Option R) (y : List (List (Int)) × Int × List (List (Int)) × Int × Int) (next : (List (List (Int)) × Int × List (List (Int)) × Int × Int) → Option R) : Option R :=
  bif (decide (y.2.2.2.2 < y.2.2.2.1)) then
    bif (decide (0 ≤ y.2.2.2.2) && decide (y.2.2.2.2 < ((y.2.2.1).length : Int))) then
      bif (decide ((IntKind.wrap .i64 (y.2.1 + (((((y.2.2.1).getD (y.2.2.2.2).toNat [])).length : Int)))) < (0 : Int))) then
        none
      else
        next (y.1, (IntKind.wrap .i64 (y.2.1 + (((((y.2.2.1).getD (y.2.2.2.2).toNat [])).length : Int)))), y.2.2.1, y.2.2.2.1, (IntKind.wrap .i64 (y.2.2.2.2 + (1 : Int))))
    else
      none
  else
    K0 (y.1, y.2.1)
noncomputable def L82_11 (k : Nat) {R : Type} (K0 : List (Int) → Option R) (y : List (List (Int)) × Int × Int × List (Int)) (next : (List (List (Int)) × Int × Int × List (Int)) → Option R) : Option R :=
  bif (decide (y.2.2.1 < y.2.1)) then
    bif (decide (0 ≤ y.2.2.1) && decide (y.2.2.1 < ((y.1).length : Int))) then
      bif (decide (((y.2.2.2).length + (((y.1).getD (y.2.2.1).toNat [])).length) * 4 ≤ maxBytes) && decide ((y.2.2.2).length + (((y.1).getD (y.2.2.1).toNat [])).length ≤ 9223372036854775807)) then
        next (y.1, y.2.1, (IntKind.wrap .i64 (y.2.2.1 + (1 : Int))), (y.2.2.2 ++ ((y.1).getD (y.2.2.1).toNat [])))
      else
        none
    else
      none
  else
    K0 y.2.2.2
noncomputable def f82 (k : Nat) (x : List (List (Int))) : Option (List (Int)) :=
  loopC k (L82_3 k
    (fun z1 =>
      Option.bind (f133 k ((), z1.2)) fun r2 =>
      loopC k (L82_11 k
        (fun z3 =>
          some z3))
        (z1.1, (((z1.1).length : Int)), (0 : Int), r2)))
    (x, (0 : Int), x, (((x).length : Int)), (0 : Int))
/-- soundservice/resample.Feed -/
noncomputable def f25 (k : Nat) (x : (Int × Int × Int × Int × Int × Int × List (Int)) × Int × List (Int)) : Option ((Int × Int × Int × Int × Int × Int × List (Int)) × Int) :=
  Option.bind (f28 k x.1) fun r1 =>
  bif (!r1) then
    some (((0 : Int), (0 : Int), (0 : Int), (0 : Int), (0 : Int), (0 : Int), []), (1 : Int))
  else
    Option.bind (f81 k x.2) fun r2 =>
    bif (!r2) then
      some (((0 : Int), (0 : Int), (0 : Int), (0 : Int), (0 : Int), (0 : Int), []), (1 : Int))
    else
    bif (x.2.1 != x.1.1) then
      some (((0 : Int), (0 : Int), (0 : Int), (0 : Int), (0 : Int), (0 : Int), []), (11 : Int))
    else
    bif (x.1.1 == 0) then
      none
    else
    bif (decide ((IntKind.wrap .i64 (Int.tdiv (IntKind.wrap .i64 ((((x.1.2.2.2.2.2.2).length : Int)) + (((x.2.2).length : Int)))) x.1.1)) > (65536 : Int))) then
      some (((0 : Int), (0 : Int), (0 : Int), (0 : Int), (0 : Int), (0 : Int), []), (3 : Int))
    else
      Option.bind (f82 k ([x.1.2.2.2.2.2.2, x.2.2])) fun r3 =>
      some ((x.1.1, x.1.2.1, x.1.2.2.1, x.1.2.2.2.1, x.1.2.2.2.2.1, x.1.2.2.2.2.2.1, r3), (0 : Int))
/-- soundservice/phase.need -/
noncomputable def f139 (k : Nat) (x : (Int × Int × Int × Int × Int) × Int) : Option (Int) :=
  bif (x.2 == (0 : Int)) then
    some (0 : Int)
  else
    Option.bind (f160 k (x.1, (IntKind.wrap .i64 (x.2 - (1 : Int))))) fun r1 =>
    Option.bind (f137 k x.1) fun r2 =>
    bif (r2 == 0) then
      none
    else
      Option.bind (f160 k x) fun r3 =>
      Option.bind (f137 k x.1) fun r4 =>
      bif (r4 == 0) then
        none
      else
        some (if (IntKind.wrap .i64 (Int.tdiv r3 r4)) > (IntKind.wrap .i64 ((IntKind.wrap .i64 (Int.tdiv r1 r2)) + (2 : Int))) then (IntKind.wrap .i64 (Int.tdiv r3 r4)) else (IntKind.wrap .i64 ((IntKind.wrap .i64 (Int.tdiv r1 r2)) + (2 : Int))))
/-- soundservice/phase.Need -/
noncomputable def f91 (k : Nat) (x : (Int × Int × Int × Int × Int) × Int) : Option (Int × Int) :=
  Option.bind (f138 k x) fun r1 =>
  bif (r1 != (0 : Int)) then
    some ((0 : Int), r1)
  else
    Option.bind (f139 k x) fun r2 =>
    some (r2, (0 : Int))
/-- soundservice/resample.Take -/
noncomputable def f34 (k : Nat) (x : (Int × Int × Int × Int × Int × Int × List (Int)) × Int) : Option ((Int × List (Int)) × (Int × Int × Int × Int × Int × Int × List (Int)) × Int) :=
  Option.bind (f90 k x) fun r1 =>
  bif (r1 != (0 : Int)) then
    some (((0 : Int), []), ((0 : Int), (0 : Int), (0 : Int), (0 : Int), (0 : Int), (0 : Int), []), r1)
  else
    Option.bind (f91 k ((x.1.2.1, x.1.2.2.1, x.1.2.2.2.1, x.1.2.2.2.2.1, x.1.2.2.2.2.2.1), x.2)) fun r2 =>
    bif (x.1.1 == 0) then
      none
    else
    bif (decide (r2.1 > (IntKind.wrap .i64 (Int.tdiv (((x.1.2.2.2.2.2.2).length : Int)) x.1.1)))) then
      some (((0 : Int), []), ((0 : Int), (0 : Int), (0 : Int), (0 : Int), (0 : Int), (0 : Int), []), (4 : Int))
    else
      Option.bind (f92 k x) fun r3 =>
      some r3
/-- soundservice/phase.Make$1 -/
noncomputable def f147 (k : Nat) (x : Int × (Int × Int × Int × Int × Int) × Int) : Option (Bool × (Int × Int × Int × Int × Int) × Int) :=
  Option.bind (f139 k (x.2.1, (IntKind.wrap .i64 (x.1 + (1 : Int))))) fun r1 =>
  some ((decide (r1 > x.2.2)), x.2)
/-- sort.Search -/
noncomputable def L146_2 (k : Nat) {R : Type} (K0 : (Int × (Int × Int × Int × Int × Int) × Int) → Option R) (y : Int × Int × (Int × Int × Int × Int × Int) × Int) (next : (Int × Int × (Int × Int × Int × Int × Int) × Int) → Option R) : Option R :=
  bif (decide (y.1 < y.2.1)) then
    Option.bind (f147 k ((IntKind.wrap .i64 (Int.fdiv (IntKind.wrap .u64 (IntKind.wrap .i64 (y.1 + y.2.1))) (2 ^ (min (Int.toNat (1 : Int)) (IntKind.bits .u64))))), y.2.2)) fun r1 =>
    bif (!r1.1) then
      next ((IntKind.wrap .i64 ((IntKind.wrap .i64 (Int.fdiv (IntKind.wrap .u64 (IntKind.wrap .i64 (y.1 + y.2.1))) (2 ^ (min (Int.toNat (1 : Int)) (IntKind.bits .u64))))) + (1 : Int))), y.2.1, r1.2)
    else
      next (y.1, (IntKind.wrap .i64 (Int.fdiv (IntKind.wrap .u64 (IntKind.wrap .i64 (y.1 + y.2.1))) (2 ^ (min (Int.toNat (1 : Int)) (IntKind.bits .u64))))), r1.2)
  else
    K0 (y.1, y.2.2)
noncomputable def f146 (k : Nat) (x : Int × (Int × Int × Int × Int × Int) × Int) : Option (Int × (Int × Int × Int × Int × Int) × Int) :=
  loopC k (L146_2 k
    (fun z2 =>
      some z2))
    ((0 : Int), x)
/-- soundservice/phase.Make -/
noncomputable def f96 (k : Nat) (x : (Int × Int × Int × Int × Int) × Int) : Option (Int × Int) :=
  Option.bind (f85 k x.1) fun r1 =>
  bif (!r1) then
    some ((0 : Int), (1 : Int))
  else
  bif (decide (x.2 < (0 : Int))) then
    some ((0 : Int), (2 : Int))
  else
  bif (decide (x.2 > (1099511627776 : Int))) then
    some ((0 : Int), (2 : Int))
  else
    Option.bind (f146 k ((65536 : Int), x)) fun r2 =>
    some (r2.1, (0 : Int))
/-- soundservice/resample.Convert -/
noncomputable def f39 (k : Nat) (x : (Int × Int × Int × Int × Int × Int × List (Int)) × Int × List (Int)) : Option ((Int × List (Int)) × (Int × Int × Int × Int × Int × Int × List (Int)) × Int) :=
  Option.bind (f25 k x) fun r1 =>
  bif (r1.2 != (0 : Int)) then
    some (((0 : Int), []), ((0 : Int), (0 : Int), (0 : Int), (0 : Int), (0 : Int), (0 : Int), []), r1.2)
  else
  bif (r1.1.1 == 0) then
    none
  else
    Option.bind (f96 k ((r1.1.2.1, r1.1.2.2.1, r1.1.2.2.2.1, r1.1.2.2.2.2.1, r1.1.2.2.2.2.2.1), (IntKind.wrap .i64 (Int.tdiv (((r1.1.2.2.2.2.2.2).length : Int)) r1.1.1)))) fun r2 =>
    Option.bind (f34 k (r1.1, r2.1)) fun r3 =>
    some r3
/-- soundservice/soundservicemade.New -/
noncomputable def f22 (k : Nat) (x : List (Int)) : Option (List (Int)) :=
  bif (decide (0 ≤ (0 : Int)) && decide ((0 : Int) ≤ (if (300 : Int) < (((x).length : Int)) then (300 : Int) else (((x).length : Int)))) && decide ((if (300 : Int) < (((x).length : Int)) then (300 : Int) else (((x).length : Int))) ≤ (if (300 : Int) < (((x).length : Int)) then (300 : Int) else (((x).length : Int)))) && decide ((if (300 : Int) < (((x).length : Int)) then (300 : Int) else (((x).length : Int))) ≤ (((x).length : Int)))) then
    some (((x).take ((if (300 : Int) < (((x).length : Int)) then (300 : Int) else (((x).length : Int)))).toNat).drop ((0 : Int)).toNat)
  else
    none
/-- (*soundservice/soundservicemade.Dice).Next -/
noncomputable def f51 (k : Nat) (x : List (Int) × Int) : Option (Int × List (Int)) :=
  bif ((((x.1).length : Int)) == (0 : Int)) then
    some ((0 : Int), x.1)
  else
  bif (decide (x.2 ≤ (1 : Int))) then
    some ((0 : Int), x.1)
  else
  bif (decide (0 ≤ (0 : Int)) && decide ((0 : Int) < ((x.1).length : Int))) then
    bif (decide (0 ≤ (1 : Int)) && decide ((1 : Int) ≤ (((x.1).length : Int))) && decide ((((x.1).length : Int)) ≤ (((x.1).length : Int))) && decide ((((x.1).length : Int)) ≤ (((x.1).length : Int)))) then
      bif (x.2 == 0) then
        none
      else
        some ((Int.tmod (IntKind.wrap .i64 ((x.1).getD ((0 : Int)).toNat (0 : Int))) x.2), (((x.1).take ((((x.1).length : Int))).toNat).drop ((1 : Int)).toNat))
    else
      none
  else
    none
/-- soundservice/soundservicemade.Wave -/
noncomputable def L24_6 (k : Nat) {R : Type} (K0 : (Int × Int × Int × Int × Int × Int × Int × List (Int)) → Option R) (y : Int × Int × Int × Int × Int × Int × Int × Int × List (Int)) (next : (Int × Int × Int × Int × Int × Int × Int × Int × List (Int)) → Option R) : Option R :=
  bif (decide (y.2.2.2.2.2.1 < y.2.1)) then
    bif (decide (((y.2.2.2.2.2.2.2.2).length + (([(IntKind.wrap .i32 (IntKind.wrap .i64 ((IntKind.wrap .i64 ((Int.tmod (IntKind.wrap .i64 ((IntKind.wrap .i64 ((IntKind.wrap .i64 (y.2.2.2.2.1 * (7919 : Int))) + (IntKind.wrap .i64 (y.2.2.2.2.2.1 * (104729 : Int))))) + (IntKind.wrap .i64 (y.1 * (15485863 : Int))))) (4001 : Int)) - (2000 : Int))) * (1000 : Int))))])).length) * 4 ≤ maxBytes) && decide ((y.2.2.2.2.2.2.2.2).length + (([(IntKind.wrap .i32 (IntKind.wrap .i64 ((IntKind.wrap .i64 ((Int.tmod (IntKind.wrap .i64 ((IntKind.wrap .i64 ((IntKind.wrap .i64 (y.2.2.2.2.1 * (7919 : Int))) + (IntKind.wrap .i64 (y.2.2.2.2.2.1 * (104729 : Int))))) + (IntKind.wrap .i64 (y.1 * (15485863 : Int))))) (4001 : Int)) - (2000 : Int))) * (1000 : Int))))])).length ≤ 9223372036854775807)) then
      next (y.1, y.2.1, y.2.2.1, y.2.2.2.1, y.2.2.2.2.1, (IntKind.wrap .i64 (y.2.2.2.2.2.1 + (1 : Int))), y.2.2.2.2.2.2.1, y.2.2.2.2.2.2.2.1, (y.2.2.2.2.2.2.2.2 ++ ([(IntKind.wrap .i32 (IntKind.wrap .i64 ((IntKind.wrap .i64 ((Int.tmod (IntKind.wrap .i64 ((IntKind.wrap .i64 ((IntKind.wrap .i64 (y.2.2.2.2.1 * (7919 : Int))) + (IntKind.wrap .i64 (y.2.2.2.2.2.1 * (104729 : Int))))) + (IntKind.wrap .i64 (y.1 * (15485863 : Int))))) (4001 : Int)) - (2000 : Int))) * (1000 : Int))))])))
    else
      none
  else
    K0 (y.1, y.2.1, y.2.2.1, y.2.2.2.1, y.2.2.2.2.1, y.2.2.2.2.2.2)
noncomputable def L24_3 (k : Nat) {R : Type} (K0 : (Int × Int × List (Int)) → Option R) (y : Int × Int × Int × Int × Int × Int × Int × List (Int)) (next : (Int × Int × Int × Int × Int × Int × Int × List (Int)) → Option R) : Option R :=
  bif (decide (y.2.2.2.2.1 < (IntKind.wrap .i64 (y.2.2.1 + y.2.2.2.1)))) then
    loopC k (L24_6 k
      (fun z2 =>
        next (z2.1, z2.2.1, z2.2.2.1, z2.2.2.2.1, (IntKind.wrap .i64 (z2.2.2.2.2.1 + (1 : Int))), z2.2.2.2.2.2)))
      (y.1, y.2.1, y.2.2.1, y.2.2.2.1, y.2.2.2.2.1, (0 : Int), y.2.2.2.2.2)
  else
    K0 y.2.2.2.2.2
noncomputable def f24 (k : Nat) (x : Int × Int × Int × Int) : Option (Int × List (Int)) :=
  loopC k (L24_3 k
    (fun z3 =>
      some z3.2))
    (x.1, x.2.1, x.2.2.1, x.2.2.2, x.2.2.1, (0 : Int), x.2.1, [])
/-- soundservice/soundserviceref04.sample -/
noncomputable def f134 (k : Nat) (x : Int) : Option (Bool) :=
  bif (decide (x ≥ (-8388608 : Int))) then
    some (decide (x ≤ (8388607 : Int)))
  else
    some false
/-- soundservice/soundserviceref04.Valid -/
noncomputable def L83_4 (k : Nat) {R : Type} (K0 : Bool → Option R) (K1 : Unit → Option R) (y : List (Int) × Int × Int) (next : (List (Int) × Int × Int) → Option R) : Option R :=
  bif (decide (y.2.2 < y.2.1)) then
    bif (decide (0 ≤ y.2.2) && decide (y.2.2 < ((y.1).length : Int))) then
      Option.bind (f134 k ((y.1).getD (y.2.2).toNat (0 : Int))) fun r1 =>
      bif (!r1) then
        K0 false
      else
        next (y.1, y.2.1, (IntKind.wrap .i64 (y.2.2 + (1 : Int))))
    else
      none
  else
    K1 ()
noncomputable def f83 (k : Nat) (x : Int × List (Int)) : Option (Bool) :=
  bif (decide (x.1 < (1 : Int))) then
    some false
  else
  bif (decide (x.1 > (8 : Int))) then
    some false
  else
  bif (x.1 == 0) then
    none
  else
  bif ((Int.tmod (((x.2).length : Int)) x.1) != (0 : Int)) then
    some false
  else
  bif (x.1 == 0) then
    none
  else
  bif (decide ((IntKind.wrap .i64 (Int.tdiv (((x.2).length : Int)) x.1)) > (65536 : Int))) then
    some false
  else
    loopC k (L83_4 k
      (fun z2 =>
        some z2)
      (fun z3 =>
        some true))
      (x.2, (((x.2).length : Int)), (0 : Int))
/-- soundservice/soundserviceref14.Parts -/
noncomputable def f100 (k : Nat) (x : Int × Int × Int × Int × Int) : Option (Int) :=
  some (IntKind.wrap .i64 (x.2.1 * (65536 : Int)))
/-- soundservice/soundserviceref03.gcd -/
noncomputable def L148_1 (k : Nat) {R : Type} (K0 : Int → Option R) (y : Int × Int) (next : (Int × Int) → Option R) : Option R :=
  bif (y.2 != (0 : Int)) then
    bif (y.2 == 0) then
      none
    else
      next (y.2, (Int.tmod y.1 y.2))
  else
    K0 y.1
noncomputable def f148 (k : Nat) (x : Int × Int) : Option (Int) :=
  loopC k (L148_1 k
    (fun z1 =>
      some z1))
    x
/-- soundservice/soundserviceref03.Valid -/
noncomputable def f113 (k : Nat) (x : Int × Int) : Option (Bool) :=
  bif (decide (x.1 ≥ (1 : Int))) then
    bif (decide (x.2 ≥ (1 : Int))) then
      bif (decide (x.1 ≤ (68719476736 : Int))) then
        bif (decide (x.2 ≤ (68719476736 : Int))) then
          Option.bind (f148 k x) fun r1 =>
          some (r1 == (1 : Int))
        else
          some false
      else
        some false
    else
      some false
  else
    some false
/-- soundservice/soundserviceref14.Valid -/
noncomputable def f87 (k : Nat) (x : Int × Int × Int × Int × Int) : Option (Bool) :=
  Option.bind (f113 k (x.1, x.2.1)) fun r1 =>
  bif r1 then
    bif (decide (x.1 ≤ (768000 : Int))) then
      bif (decide (x.2.1 ≤ (768000 : Int))) then
        bif (decide (x.2.2.1 ≥ (-4096 : Int))) then
          bif (decide (x.2.2.1 ≤ (4096 : Int))) then
            bif (decide (x.2.2.2.1 ≥ (0 : Int))) then
              bif (decide (x.2.2.2.1 ≤ (1125899906842624 : Int))) then
                bif (decide (x.2.2.2.2 ≥ (0 : Int))) then
                  Option.bind (f100 k x) fun r2 =>
                  some (decide (x.2.2.2.2 < r2))
                else
                  some false
              else
                some false
            else
              some false
          else
            some false
        else
          some false
      else
        some false
    else
      some false
  else
    some false
/-- soundservice/soundserviceref15.block -/
noncomputable def f88 (k : Nat) (x : Int × Int × Int × Int × Int × Int × List (Int)) : Option (Int × List (Int)) :=
  some (x.1, x.2.2.2.2.2.2)
/-- soundservice/soundserviceref15.Valid -/
noncomputable def f29 (k : Nat) (x : Int × Int × Int × Int × Int × Int × List (Int)) : Option (Bool) :=
  Option.bind (f87 k (x.2.1, x.2.2.1, x.2.2.2.1, x.2.2.2.2.1, x.2.2.2.2.2.1)) fun r1 =>
  bif r1 then
    Option.bind (f88 k x) fun r2 =>
    Option.bind (f83 k r2) fun r3 =>
    some r3
  else
    some false
/-- soundservice/soundserviceref15.New -/
noncomputable def f33 (k : Nat) (x : Int × Int × Int) : Option ((Int × Int × Int × Int × Int × Int × List (Int)) × Int) :=
  Option.bind (f29 k (x.1, x.2.1, x.2.2, (0 : Int), (0 : Int), (0 : Int), [])) fun r1 =>
  bif (!r1) then
    some (((0 : Int), (0 : Int), (0 : Int), (0 : Int), (0 : Int), (0 : Int), []), (1 : Int))
  else
    some ((x.1, x.2.1, x.2.2, (0 : Int), (0 : Int), (0 : Int), []), (0 : Int))
/-- soundservice/soundserviceref15.Feed -/
noncomputable def f26 (k : Nat) (x : (Int × Int × Int × Int × Int × Int × List (Int)) × Int × List (Int)) : Option ((Int × Int × Int × Int × Int × Int × List (Int)) × Int) :=
  Option.bind (f29 k x.1) fun r1 =>
  bif (!r1) then
    some (((0 : Int), (0 : Int), (0 : Int), (0 : Int), (0 : Int), (0 : Int), []), (1 : Int))
  else
    Option.bind (f83 k x.2) fun r2 =>
    bif (!r2) then
      some (((0 : Int), (0 : Int), (0 : Int), (0 : Int), (0 : Int), (0 : Int), []), (1 : Int))
    else
    bif (x.2.1 != x.1.1) then
      some (((0 : Int), (0 : Int), (0 : Int), (0 : Int), (0 : Int), (0 : Int), []), (11 : Int))
    else
    bif (x.1.1 == 0) then
      none
    else
    bif (decide ((IntKind.wrap .i64 (Int.tdiv (IntKind.wrap .i64 ((((x.1.2.2.2.2.2.2).length : Int)) + (((x.2.2).length : Int)))) x.1.1)) > (65536 : Int))) then
      some (((0 : Int), (0 : Int), (0 : Int), (0 : Int), (0 : Int), (0 : Int), []), (3 : Int))
    else
    bif (decide ((x.1.2.2.2.2.2.2).length * 4 ≤ maxBytes) && decide ((x.1.2.2.2.2.2.2).length ≤ 9223372036854775807)) then
      bif (decide (((x.1.2.2.2.2.2.2).length + (x.2.2).length) * 4 ≤ maxBytes) && decide ((x.1.2.2.2.2.2.2).length + (x.2.2).length ≤ 9223372036854775807)) then
        some ((x.1.1, x.1.2.1, x.1.2.2.1, x.1.2.2.2.1, x.1.2.2.2.2.1, x.1.2.2.2.2.2.1, (x.1.2.2.2.2.2.2 ++ x.2.2)), (0 : Int))
      else
        none
    else
      none
/-- soundservice/soundserviceref15.Waiting -/
noncomputable def f31 (k : Nat) (x : Int × Int × Int × Int × Int × Int × List (Int)) : Option (Int) :=
  Option.bind (f29 k x) fun r1 =>
  bif (!r1) then
    some (0 : Int)
  else
  bif (x.1 == 0) then
    none
  else
    some (IntKind.wrap .i64 (Int.tdiv (((x.2.2.2.2.2.2).length : Int)) x.1))
/-- soundservice/soundserviceref14.step -/
noncomputable def f99 (k : Nat) (x : Int × Int × Int × Int × Int) : Option (Int) :=
  some (IntKind.wrap .i64 (x.1 * (IntKind.wrap .i64 ((65536 : Int) + x.2.2.1))))
/-- soundservice/soundserviceref14.At -/
noncomputable def f46 (k : Nat) (x : (Int × Int × Int × Int × Int) × Int) : Option (Int × Int × Int) :=
  Option.bind (f87 k x.1) fun r1 =>
  bif (!r1) then
    some ((0 : Int), (0 : Int), (1 : Int))
  else
  bif (decide (x.2 < (0 : Int))) then
    some ((0 : Int), (0 : Int), (2 : Int))
  else
  bif (decide (x.2 > (65536 : Int))) then
    some ((0 : Int), (0 : Int), (2 : Int))
  else
    Option.bind (f99 k x.1) fun r2 =>
    Option.bind (f100 k x.1) fun r3 =>
    bif (r3 == 0) then
      none
    else
      Option.bind (f100 k x.1) fun r4 =>
      bif (r4 == 0) then
        none
      else
        some ((IntKind.wrap .i64 (x.1.2.2.2.1 + (IntKind.wrap .i64 (Int.tdiv (IntKind.wrap .i64 (x.1.2.2.2.2 + (IntKind.wrap .i64 (x.2 * r2)))) r3)))), (Int.tmod (IntKind.wrap .i64 (x.1.2.2.2.2 + (IntKind.wrap .i64 (x.2 * r2)))) r4), (0 : Int))
/-- soundservice/soundserviceref14.Need -/
noncomputable def f93 (k : Nat) (x : (Int × Int × Int × Int × Int) × Int) : Option (Int × Int) :=
  Option.bind (f46 k x) fun r1 =>
  bif (r1.2.2 != (0 : Int)) then
    some ((0 : Int), r1.2.2)
  else
  bif (x.2 == (0 : Int)) then
    some ((0 : Int), (0 : Int))
  else
    Option.bind (f46 k (x.1, (IntKind.wrap .i64 (x.2 - (1 : Int))))) fun r2 =>
    some ((IntKind.wrap .i64 ((if r1.1 > (IntKind.wrap .i64 (r2.1 + (2 : Int))) then r1.1 else (IntKind.wrap .i64 (r2.1 + (2 : Int)))) - x.1.2.2.2.1)), (0 : Int))
/-- soundservice/soundserviceref14.Advance -/
noncomputable def f144 (k : Nat) (x : (Int × Int × Int × Int × Int) × Int) : Option ((Int × Int × Int × Int × Int) × Int) :=
  Option.bind (f46 k x) fun r1 =>
  bif (r1.2.2 != (0 : Int)) then
    some (((0 : Int), (0 : Int), (0 : Int), (0 : Int), (0 : Int)), r1.2.2)
  else
  bif (decide (r1.1 > (1125899906842624 : Int))) then
    some (((0 : Int), (0 : Int), (0 : Int), (0 : Int), (0 : Int)), (2 : Int))
  else
    some ((x.1.1, x.1.2.1, x.1.2.2.1, r1.1, r1.2.1), (0 : Int))
/-- soundservice/soundserviceref15.passed -/
noncomputable def f94 (k : Nat) (x : (Int × Int × Int × Int × Int × Int × List (Int)) × Int) : Option ((Int × Int × Int × Int × Int × Int × List (Int)) × Int) :=
  Option.bind (f144 k ((x.1.2.1, x.1.2.2.1, x.1.2.2.2.1, x.1.2.2.2.2.1, x.1.2.2.2.2.2.1), x.2)) fun r1 =>
  bif (r1.2 != (0 : Int)) then
    some (((0 : Int), (0 : Int), (0 : Int), (0 : Int), (0 : Int), (0 : Int), []), r1.2)
  else
    Option.bind (f31 k x.1) fun r2 =>
    bif (decide (0 ≤ (IntKind.wrap .i64 ((if r2 < (IntKind.wrap .i64 (r1.1.2.2.2.1 - x.1.2.2.2.2.1)) then r2 else (IntKind.wrap .i64 (r1.1.2.2.2.1 - x.1.2.2.2.2.1))) * x.1.1))) && decide ((IntKind.wrap .i64 ((if r2 < (IntKind.wrap .i64 (r1.1.2.2.2.1 - x.1.2.2.2.2.1)) then r2 else (IntKind.wrap .i64 (r1.1.2.2.2.1 - x.1.2.2.2.2.1))) * x.1.1)) ≤ (((x.1.2.2.2.2.2.2).length : Int))) && decide ((((x.1.2.2.2.2.2.2).length : Int)) ≤ (((x.1.2.2.2.2.2.2).length : Int))) && decide ((((x.1.2.2.2.2.2.2).length : Int)) ≤ (((x.1.2.2.2.2.2.2).length : Int)))) then
      bif (decide (((((x.1.2.2.2.2.2.2).take ((((x.1.2.2.2.2.2.2).length : Int))).toNat).drop ((IntKind.wrap .i64 ((if r2 < (IntKind.wrap .i64 (r1.1.2.2.2.1 - x.1.2.2.2.2.1)) then r2 else (IntKind.wrap .i64 (r1.1.2.2.2.1 - x.1.2.2.2.2.1))) * x.1.1))).toNat)).length * 4 ≤ maxBytes) && decide (((((x.1.2.2.2.2.2.2).take ((((x.1.2.2.2.2.2.2).length : Int))).toNat).drop ((IntKind.wrap .i64 ((if r2 < (IntKind.wrap .i64 (r1.1.2.2.2.1 - x.1.2.2.2.2.1)) then r2 else (IntKind.wrap .i64 (r1.1.2.2.2.1 - x.1.2.2.2.2.1))) * x.1.1))).toNat)).length ≤ 9223372036854775807)) then
        some ((x.1.1, r1.1.1, r1.1.2.1, r1.1.2.2.1, r1.1.2.2.2.1, r1.1.2.2.2.2, (((x.1.2.2.2.2.2.2).take ((((x.1.2.2.2.2.2.2).length : Int))).toNat).drop ((IntKind.wrap .i64 ((if r2 < (IntKind.wrap .i64 (r1.1.2.2.2.1 - x.1.2.2.2.2.1)) then r2 else (IntKind.wrap .i64 (r1.1.2.2.2.1 - x.1.2.2.2.2.1))) * x.1.1))).toNat)), (0 : Int))
      else
        none
    else
      none
/-- soundservice/soundserviceref15.between -/
noncomputable def f145 (k : Nat) (x : Int × Int × Int × Int) : Option (Int) :=
  bif (x.2.2.2 == 0) then
    none
  else
  bif (x.2.2.2 == 0) then
    none
  else
  bif (decide ((Int.tmod (IntKind.wrap .i64 ((IntKind.wrap .i64 ((IntKind.wrap .i64 ((IntKind.wrap .i64 x.1) * (IntKind.wrap .i64 (x.2.2.2 - x.2.2.1)))) + (IntKind.wrap .i64 ((IntKind.wrap .i64 x.2.1) * x.2.2.1)))) + (IntKind.wrap .i64 (Int.tdiv x.2.2.2 (2 : Int))))) x.2.2.2) < (0 : Int))) then
    some (IntKind.wrap .i32 (IntKind.wrap .i64 ((IntKind.wrap .i64 (Int.tdiv (IntKind.wrap .i64 ((IntKind.wrap .i64 ((IntKind.wrap .i64 ((IntKind.wrap .i64 x.1) * (IntKind.wrap .i64 (x.2.2.2 - x.2.2.1)))) + (IntKind.wrap .i64 ((IntKind.wrap .i64 x.2.1) * x.2.2.1)))) + (IntKind.wrap .i64 (Int.tdiv x.2.2.2 (2 : Int))))) x.2.2.2)) - (1 : Int))))
  else
    some (IntKind.wrap .i32 (IntKind.wrap .i64 (Int.tdiv (IntKind.wrap .i64 ((IntKind.wrap .i64 ((IntKind.wrap .i64 ((IntKind.wrap .i64 x.1) * (IntKind.wrap .i64 (x.2.2.2 - x.2.2.1)))) + (IntKind.wrap .i64 ((IntKind.wrap .i64 x.2.1) * x.2.2.1)))) + (IntKind.wrap .i64 (Int.tdiv x.2.2.2 (2 : Int))))) x.2.2.2)))
/-- soundservice/soundserviceref15.frames -/
noncomputable def L95_10 (k : Nat) {R : Type} (K0 : (Int × Int × Int × (Int × Int × Int × Int × Int × Int × List (Int)) × Int × Int × List (Int)) → Option R) (y : Int × Int × Int × Int × Int × Int × Int × (Int × Int × Int × Int × Int × Int × List (Int)) × Int × Int × List (Int)) (next : (Int × Int × Int × Int × Int × Int × Int × (Int × Int × Int × Int × Int × Int × List (Int)) × Int × Int × List (Int)) → Option R) : Option R :=
  bif (decide (y.2.2.2.2.2.2.1 < y.2.2.2.2.2.2.2.1.1)) then
    bif (decide (0 ≤ (IntKind.wrap .i64 (y.2.2.2.2.1 + y.2.2.2.2.2.2.1))) && decide ((IntKind.wrap .i64 (y.2.2.2.2.1 + y.2.2.2.2.2.2.1)) < ((y.2.2.2.2.2.2.2.1.2.2.2.2.2.2).length : Int))) then
      bif (decide (0 ≤ (IntKind.wrap .i64 (y.2.2.2.2.2.1 + y.2.2.2.2.2.2.1))) && decide ((IntKind.wrap .i64 (y.2.2.2.2.2.1 + y.2.2.2.2.2.2.1)) < ((y.2.2.2.2.2.2.2.1.2.2.2.2.2.2).length : Int))) then
        Option.bind (f100 k (y.2.2.2.2.2.2.2.1.2.1, y.2.2.2.2.2.2.2.1.2.2.1, y.2.2.2.2.2.2.2.1.2.2.2.1, y.2.2.2.2.2.2.2.1.2.2.2.2.1, y.2.2.2.2.2.2.2.1.2.2.2.2.2.1)) fun r5 =>
        Option.bind (f145 k (((y.2.2.2.2.2.2.2.1.2.2.2.2.2.2).getD ((IntKind.wrap .i64 (y.2.2.2.2.1 + y.2.2.2.2.2.2.1))).toNat (0 : Int)), ((y.2.2.2.2.2.2.2.1.2.2.2.2.2.2).getD ((IntKind.wrap .i64 (y.2.2.2.2.2.1 + y.2.2.2.2.2.2.1))).toNat (0 : Int)), y.2.2.2.1, r5)) fun r6 =>
        bif (decide (((y.2.2.2.2.2.2.2.2.2.2).length + (([r6])).length) * 4 ≤ maxBytes) && decide ((y.2.2.2.2.2.2.2.2.2.2).length + (([r6])).length ≤ 9223372036854775807)) then
          next (y.1, y.2.1, y.2.2.1, y.2.2.2.1, y.2.2.2.2.1, y.2.2.2.2.2.1, (IntKind.wrap .i64 (y.2.2.2.2.2.2.1 + (1 : Int))), y.2.2.2.2.2.2.2.1, y.2.2.2.2.2.2.2.2.1, y.2.2.2.2.2.2.2.2.2.1, (y.2.2.2.2.2.2.2.2.2.2 ++ ([r6])))
        else
          none
      else
        none
    else
      none
  else
    K0 (y.1, y.2.1, y.2.2.1, y.2.2.2.2.2.2.2)
noncomputable def L95_4 (k : Nat) {R : Type} (K0 : (Int × Int × List (Int)) → Option R) (y : Int × Int × Int × (Int × Int × Int × Int × Int × Int × List (Int)) × Int × Int × List (Int)) (next : (Int × Int × Int × (Int × Int × Int × Int × Int × Int × List (Int)) × Int × Int × List (Int)) → Option R) : Option R :=
  bif (decide (y.2.2.1 < y.1)) then
    Option.bind (f46 k ((y.2.2.2.1.2.1, y.2.2.2.1.2.2.1, y.2.2.2.1.2.2.2.1, y.2.2.2.1.2.2.2.2.1, y.2.2.2.1.2.2.2.2.2.1), y.2.2.1)) fun r8 =>
    loopC k (L95_10 k
      (fun z9 =>
        next (z9.1, z9.2.1, (IntKind.wrap .i64 (z9.2.2.1 + (1 : Int))), z9.2.2.2)))
      (y.1, y.2.1, y.2.2.1, r8.2.1, (IntKind.wrap .i64 ((if (IntKind.wrap .i64 (y.2.1 - (1 : Int))) < (IntKind.wrap .i64 (r8.1 - y.2.2.2.1.2.2.2.2.1)) then (IntKind.wrap .i64 (y.2.1 - (1 : Int))) else (IntKind.wrap .i64 (r8.1 - y.2.2.2.1.2.2.2.2.1))) * y.2.2.2.1.1)), (IntKind.wrap .i64 ((if (IntKind.wrap .i64 (y.2.1 - (1 : Int))) < (IntKind.wrap .i64 ((IntKind.wrap .i64 (r8.1 - y.2.2.2.1.2.2.2.2.1)) + (1 : Int))) then (IntKind.wrap .i64 (y.2.1 - (1 : Int))) else (IntKind.wrap .i64 ((IntKind.wrap .i64 (r8.1 - y.2.2.2.1.2.2.2.2.1)) + (1 : Int)))) * y.2.2.2.1.1)), (0 : Int), y.2.2.2)
  else
    K0 y.2.2.2.2
noncomputable def f95 (k : Nat) (x : (Int × Int × Int × Int × Int × Int × List (Int)) × Int) : Option (Int × List (Int)) :=
  Option.bind (f31 k x.1) fun r1 =>
  loopC k (L95_4 k
    (fun z10 =>
      some z10.2))
    (x.2, r1, (0 : Int), x.1, (0 : Int), x.1.1, [])
/-- soundservice/soundserviceref15.Take -/
noncomputable def f35 (k : Nat) (x : (Int × Int × Int × Int × Int × Int × List (Int)) × Int) : Option ((Int × List (Int)) × (Int × Int × Int × Int × Int × Int × List (Int)) × Int) :=
  Option.bind (f29 k x.1) fun r1 =>
  bif (!r1) then
    some (((0 : Int), []), ((0 : Int), (0 : Int), (0 : Int), (0 : Int), (0 : Int), (0 : Int), []), (1 : Int))
  else
    Option.bind (f93 k ((x.1.2.1, x.1.2.2.1, x.1.2.2.2.1, x.1.2.2.2.2.1, x.1.2.2.2.2.2.1), x.2)) fun r2 =>
    bif (r2.2 != (0 : Int)) then
      some (((0 : Int), []), ((0 : Int), (0 : Int), (0 : Int), (0 : Int), (0 : Int), (0 : Int), []), r2.2)
    else
      Option.bind (f31 k x.1) fun r3 =>
      bif (decide (r2.1 > r3)) then
        some (((0 : Int), []), ((0 : Int), (0 : Int), (0 : Int), (0 : Int), (0 : Int), (0 : Int), []), (4 : Int))
      else
        Option.bind (f94 k x) fun r4 =>
        bif (r4.2 != (0 : Int)) then
          some (((0 : Int), []), ((0 : Int), (0 : Int), (0 : Int), (0 : Int), (0 : Int), (0 : Int), []), r4.2)
        else
          Option.bind (f95 k x) fun r5 =>
          some (r5, r4.1, (0 : Int))
/-- soundservice/soundserviceref14.Make -/
noncomputable def L45_6 (k : Nat) {R : Type} (K0 : Int → Option R) (y : Int × Int × Int × Int × Int × Int × Int × Int) (next : (Int × Int × Int × Int × Int × Int × Int × Int) → Option R) : Option R :=
  bif (decide (y.2.1 < y.2.2.1)) then
    Option.bind (f93 k (y.2.2.2, (IntKind.wrap .i64 (Int.tdiv (IntKind.wrap .i64 ((IntKind.wrap .i64 (y.2.1 + y.2.2.1)) + (1 : Int))) (2 : Int))))) fun r2 =>
    bif (decide (r2.1 ≤ y.1)) then
      next (y.1, (IntKind.wrap .i64 (Int.tdiv (IntKind.wrap .i64 ((IntKind.wrap .i64 (y.2.1 + y.2.2.1)) + (1 : Int))) (2 : Int))), y.2.2)
    else
      next (y.1, y.2.1, (IntKind.wrap .i64 ((IntKind.wrap .i64 (Int.tdiv (IntKind.wrap .i64 ((IntKind.wrap .i64 (y.2.1 + y.2.2.1)) + (1 : Int))) (2 : Int))) - (1 : Int))), y.2.2.2)
  else
    K0 y.2.1
noncomputable def f45 (k : Nat) (x : (Int × Int × Int × Int × Int) × Int) : Option (Int × Int) :=
  Option.bind (f87 k x.1) fun r1 =>
  bif (!r1) then
    some ((0 : Int), (1 : Int))
  else
  bif (decide (x.2 < (0 : Int))) then
    some ((0 : Int), (2 : Int))
  else
  bif (decide (x.2 > (1099511627776 : Int))) then
    some ((0 : Int), (2 : Int))
  else
    loopC k (L45_6 k
      (fun z3 =>
        some (z3, (0 : Int))))
      (x.2, (0 : Int), (65536 : Int), x.1)
/-- soundservice/soundserviceref15.Convert -/
noncomputable def f40 (k : Nat) (x : (Int × Int × Int × Int × Int × Int × List (Int)) × Int × List (Int)) : Option ((Int × List (Int)) × (Int × Int × Int × Int × Int × Int × List (Int)) × Int) :=
  Option.bind (f26 k x) fun r1 =>
  bif (r1.2 != (0 : Int)) then
    some (((0 : Int), []), ((0 : Int), (0 : Int), (0 : Int), (0 : Int), (0 : Int), (0 : Int), []), r1.2)
  else
    Option.bind (f31 k r1.1) fun r2 =>
    Option.bind (f45 k ((r1.1.2.1, r1.1.2.2.1, r1.1.2.2.2.1, r1.1.2.2.2.2.1, r1.1.2.2.2.2.2.1), r2)) fun r3 =>
    Option.bind (f35 k (r1.1, r3.1)) fun r4 =>
    some r4
/-- soundservice/soundserviceref03.Make -/
noncomputable def f101 (k : Nat) (x : Int × Int) : Option ((Int × Int) × Int) :=
  bif (decide (x.1 < (1 : Int))) then
    some (((0 : Int), (0 : Int)), (1 : Int))
  else
  bif (decide (x.2 < (1 : Int))) then
    some (((0 : Int), (0 : Int)), (1 : Int))
  else
    Option.bind (f148 k x) fun r1 =>
    bif (r1 == 0) then
      none
    else
    bif (r1 == 0) then
      none
    else
    bif (decide ((IntKind.wrap .i64 (Int.tdiv x.1 r1)) > (68719476736 : Int))) then
      some (((0 : Int), (0 : Int)), (2 : Int))
    else
    bif (decide ((IntKind.wrap .i64 (Int.tdiv x.2 r1)) > (68719476736 : Int))) then
      some (((0 : Int), (0 : Int)), (2 : Int))
    else
      some (((IntKind.wrap .i64 (Int.tdiv x.1 r1)), (IntKind.wrap .i64 (Int.tdiv x.2 r1))), (0 : Int))
/-- soundservice/soundservicemade.Base -/
noncomputable def f48 (k : Nat) (x : List (Int)) : Option ((Int × Int) × List (Int)) :=
  Option.bind (f51 k (x, (10 : Int))) fun r1 =>
  bif (decide (0 ≤ r1.1) && decide (r1.1 < ((([(48000 : Int), (48000 : Int), (44100 : Int), (96000 : Int), (8000 : Int), (32000 : Int), (192000 : Int), (1000 : Int), (768000 : Int), (47999 : Int)])).length : Int))) then
    Option.bind (f51 k (r1.2, (10 : Int))) fun r2 =>
    bif (decide (0 ≤ r2.1) && decide (r2.1 < ((([(48000 : Int), (48000 : Int), (44100 : Int), (96000 : Int), (8000 : Int), (32000 : Int), (192000 : Int), (1000 : Int), (768000 : Int), (47999 : Int)])).length : Int))) then
      Option.bind (f101 k (((([(48000 : Int), (48000 : Int), (44100 : Int), (96000 : Int), (8000 : Int), (32000 : Int), (192000 : Int), (1000 : Int), (768000 : Int), (47999 : Int)])).getD (r1.1).toNat (0 : Int)), ((([(48000 : Int), (48000 : Int), (44100 : Int), (96000 : Int), (8000 : Int), (32000 : Int), (192000 : Int), (1000 : Int), (768000 : Int), (47999 : Int)])).getD (r2.1).toNat (0 : Int)))) fun r3 =>
      some (r3.1, r2.2)
    else
      none
  else
    none
/-- soundservice/soundserviceref04.SameData -/
noncomputable def L84_4 (k : Nat) {R : Type} (K0 : Bool → Option R) (K1 : Unit → Option R) (y : List (Int) × List (Int) × Int × Int) (next : (List (Int) × List (Int) × Int × Int) → Option R) : Option R :=
  bif (decide (y.2.2.2 < y.2.2.1)) then
    bif (decide (0 ≤ y.2.2.2) && decide (y.2.2.2 < ((y.1).length : Int))) then
      bif (decide (0 ≤ y.2.2.2) && decide (y.2.2.2 < ((y.2.1).length : Int))) then
        bif (((y.1).getD (y.2.2.2).toNat (0 : Int)) != ((y.2.1).getD (y.2.2.2).toNat (0 : Int))) then
          K0 false
        else
          next (y.1, y.2.1, y.2.2.1, (IntKind.wrap .i64 (y.2.2.2 + (1 : Int))))
      else
        none
    else
      none
  else
    K1 ()
noncomputable def f84 (k : Nat) (x : List (Int) × List (Int)) : Option (Bool) :=
  bif ((((x.1).length : Int)) != (((x.2).length : Int))) then
    some false
  else
    loopC k (L84_4 k
      (fun z1 =>
        some z1)
      (fun z2 =>
        some true))
      (x.1, x.2, (((x.1).length : Int)), (0 : Int))
/-- soundservice/soundserviceref15.Same -/
noncomputable def f27 (k : Nat) (x : (Int × Int × Int × Int × Int × Int × List (Int)) × Int × Int × Int × Int × Int × Int × List (Int)) : Option (Bool) :=
  bif (x.1.1 == x.2.1) then
    bif ((x.1.2.1 == x.2.2.1) && ((x.1.2.2.1 == x.2.2.2.1) && ((x.1.2.2.2.1 == x.2.2.2.2.1) && ((x.1.2.2.2.2.1 == x.2.2.2.2.2.1) && ((x.1.2.2.2.2.2.1 == x.2.2.2.2.2.2.1) && true))))) then
      Option.bind (f84 k (x.1.2.2.2.2.2.2, x.2.2.2.2.2.2.2)) fun r1 =>
      some r1
    else
      some false
  else
    some false
/-- soundservice/soundserviceref15.Finish -/
noncomputable def L37_6 (k : Nat) {R : Type} (K0 : (Int × (Int × Int × Int × Int × Int × Int × List (Int)) × Int × Int × Int × Int × Int × Int × Int) → Option R) (y : Int × Int × Int × (Int × Int × Int × Int × Int × Int × List (Int)) × Int × Int × Int × Int × Int × Int × Int) (next : (Int × Int × Int × (Int × Int × Int × Int × Int × Int × List (Int)) × Int × Int × Int × Int × Int × Int × Int) → Option R) : Option R :=
  bif (decide (y.2.1 < y.1)) then
    Option.bind (f46 k ((y.2.2.2.1.2.1, y.2.2.2.1.2.2.1, y.2.2.2.1.2.2.2.1, y.2.2.2.1.2.2.2.2.1, y.2.2.2.1.2.2.2.2.2.1), y.2.1)) fun r3 =>
    bif (decide ((IntKind.wrap .i64 (r3.1 - y.2.2.2.1.2.2.2.2.1)) ≥ y.2.2.1)) then
      K0 (y.2.1, y.2.2.2)
    else
      next (y.1, (IntKind.wrap .i64 (y.2.1 + (1 : Int))), y.2.2)
  else
    K0 (y.2.1, y.2.2.2)
noncomputable def f37 (k : Nat) (x : (Int × Int × Int × Int × Int × Int × List (Int)) × Int) : Option ((Int × List (Int)) × (Int × Int × Int × Int × Int × Int × List (Int)) × Int) :=
  Option.bind (f29 k x.1) fun r1 =>
  bif (!r1) then
    some (((0 : Int), []), ((0 : Int), (0 : Int), (0 : Int), (0 : Int), (0 : Int), (0 : Int), []), (1 : Int))
  else
  bif (decide (x.2 < (0 : Int))) then
    some (((0 : Int), []), ((0 : Int), (0 : Int), (0 : Int), (0 : Int), (0 : Int), (0 : Int), []), (2 : Int))
  else
  bif (decide (x.2 > (65536 : Int))) then
    some (((0 : Int), []), ((0 : Int), (0 : Int), (0 : Int), (0 : Int), (0 : Int), (0 : Int), []), (2 : Int))
  else
    Option.bind (f31 k x.1) fun r2 =>
    loopC k (L37_6 k
      (fun z4 =>
        Option.bind (f94 k (z4.2.1, z4.1)) fun r5 =>
        bif (r5.2 != (0 : Int)) then
          some (((0 : Int), []), ((0 : Int), (0 : Int), (0 : Int), (0 : Int), (0 : Int), (0 : Int), []), r5.2)
        else
          Option.bind (f95 k (z4.2.1, z4.1)) fun r6 =>
          some (r6, r5.1, (0 : Int))))
      (x.2, (0 : Int), r2, x.1, (0 : Int), (0 : Int), (0 : Int), (0 : Int), (0 : Int), (0 : Int), (0 : Int))
/-- soundservice/soundserviceref04.Same -/
noncomputable def f38 (k : Nat) (x : (Int × List (Int)) × Int × List (Int)) : Option (Bool) :=
  bif (x.1.1 == x.2.1) then
    Option.bind (f84 k (x.1.2, x.2.2)) fun r1 =>
    some r1
  else
    some false
/-- soundservice/soundserviceref04.Frames -/
noncomputable def f47 (k : Nat) (x : Int × List (Int)) : Option (Int) :=
  Option.bind (f83 k x) fun r1 =>
  bif (!r1) then
    some (0 : Int)
  else
  bif (x.1 == 0) then
    none
  else
    some (IntKind.wrap .i64 (Int.tdiv (((x.2).length : Int)) x.1))
/-- soundservice/soundserviceref04.Cut -/
noncomputable def f97 (k : Nat) (x : (Int × List (Int)) × Int × Int) : Option (Int × List (Int)) :=
  bif (decide (0 ≤ (IntKind.wrap .i64 (x.2.1 * x.1.1))) && decide ((IntKind.wrap .i64 (x.2.1 * x.1.1)) ≤ (IntKind.wrap .i64 (x.2.2 * x.1.1))) && decide ((IntKind.wrap .i64 (x.2.2 * x.1.1)) ≤ (IntKind.wrap .i64 (x.2.2 * x.1.1))) && decide ((IntKind.wrap .i64 (x.2.2 * x.1.1)) ≤ (((x.1.2).length : Int)))) then
    bif (decide (((((x.1.2).take ((IntKind.wrap .i64 (x.2.2 * x.1.1))).toNat).drop ((IntKind.wrap .i64 (x.2.1 * x.1.1))).toNat)).length * 4 ≤ maxBytes) && decide (((((x.1.2).take ((IntKind.wrap .i64 (x.2.2 * x.1.1))).toNat).drop ((IntKind.wrap .i64 (x.2.1 * x.1.1))).toNat)).length ≤ 9223372036854775807)) then
      some (x.1.1, (((x.1.2).take ((IntKind.wrap .i64 (x.2.2 * x.1.1))).toNat).drop ((IntKind.wrap .i64 (x.2.1 * x.1.1))).toNat))
    else
      none
  else
    none
/-- soundservice/soundservicemade.Cut -/
noncomputable def L41_4 (k : Nat) {R : Type} (K0 : (Int × Int × (Int × List (Int)) × List (Int × List (Int))) → Option R) (y : Int × Int × List (Int) × Int × Int × (Int × List (Int)) × List (Int × List (Int))) (next : (Int × Int × List (Int) × Int × Int × (Int × List (Int)) × List (Int × List (Int))) → Option R) : Option R :=
  bif (decide (y.2.2.2.2.1 < y.2.2.2.1)) then
    bif (decide (0 ≤ y.2.2.2.2.1) && decide (y.2.2.2.2.1 < ((y.2.2.1).length : Int))) then
      bif (decide ((IntKind.wrap .i64 (y.1 + (Int.tmod (IntKind.wrap .i64 ((y.2.2.1).getD (y.2.2.2.2.1).toNat (0 : Int))) (8 : Int)))) ≤ y.2.1)) then
        Option.bind (f97 k (y.2.2.2.2.2.1, y.1, (IntKind.wrap .i64 (y.1 + (Int.tmod (IntKind.wrap .i64 ((y.2.2.1).getD (y.2.2.2.2.1).toNat (0 : Int))) (8 : Int)))))) fun r3 =>
        bif (decide (((y.2.2.2.2.2.2).length + (([r3])).length) * 32 ≤ maxBytes) && decide ((y.2.2.2.2.2.2).length + (([r3])).length ≤ 9223372036854775807)) then
          next ((IntKind.wrap .i64 (y.1 + (Int.tmod (IntKind.wrap .i64 ((y.2.2.1).getD (y.2.2.2.2.1).toNat (0 : Int))) (8 : Int)))), y.2.1, y.2.2.1, y.2.2.2.1, (IntKind.wrap .i64 (y.2.2.2.2.1 + (1 : Int))), y.2.2.2.2.2.1, (y.2.2.2.2.2.2 ++ ([r3])))
        else
          none
      else
        next (y.1, y.2.1, y.2.2.1, y.2.2.2.1, (IntKind.wrap .i64 (y.2.2.2.2.1 + (1 : Int))), y.2.2.2.2.2)
    else
      none
  else
    K0 (y.1, y.2.1, y.2.2.2.2.2)
noncomputable def f41 (k : Nat) (x : (Int × List (Int)) × List (Int)) : Option (List (Int × List (Int))) :=
  Option.bind (f47 k x.1) fun r1 =>
  loopC k (L41_4 k
    (fun z4 =>
      Option.bind (f97 k (z4.2.2.1, z4.1, z4.2.1)) fun r5 =>
      bif (decide (((z4.2.2.2).length + (([r5])).length) * 32 ≤ maxBytes) && decide ((z4.2.2.2).length + (([r5])).length ≤ 9223372036854775807)) then
        some (z4.2.2.2 ++ ([r5]))
      else
        none))
    ((0 : Int), r1, x.2, (((x.2).length : Int)), (0 : Int), x.1, [])
/-- soundservice/soundserviceref04.Join -/
noncomputable def f42 (k : Nat) (x : (Int × List (Int)) × Int × List (Int)) : Option (Int × List (Int)) :=
  bif (decide ((x.1.2).length * 4 ≤ maxBytes) && decide ((x.1.2).length ≤ 9223372036854775807)) then
    bif (decide (((x.1.2).length + (x.2.2).length) * 4 ≤ maxBytes) && decide ((x.1.2).length + (x.2.2).length ≤ 9223372036854775807)) then
      some (x.1.1, (x.1.2 ++ x.2.2))
    else
      none
  else
    none
/-- soundservice/sample.Silence -/
noncomputable def f108 (k : Nat) (x : Int × Int) : Option ((Int × List (Int)) × Int) :=
  bif (decide (x.1 < (1 : Int))) then
    some (((0 : Int), []), (2 : Int))
  else
  bif (decide (x.1 > (8 : Int))) then
    some (((0 : Int), []), (2 : Int))
  else
  bif (decide (x.2 < (0 : Int))) then
    some (((0 : Int), []), (2 : Int))
  else
  bif (decide (x.2 > (65536 : Int))) then
    some (((0 : Int), []), (2 : Int))
  else
  bif (decide (0 ≤ (IntKind.wrap .i64 (x.1 * x.2))) && decide ((IntKind.wrap .i64 (x.1 * x.2)) ≤ (IntKind.wrap .i64 (x.1 * x.2))) && decide ((IntKind.wrap .i64 (x.1 * x.2)) * ((4 : Nat) : Int) ≤ (maxBytes : Int)) && true && true) then
    some ((x.1, (List.replicate ((IntKind.wrap .i64 (x.1 * x.2))).toNat (0 : Int))), (0 : Int))
  else
    none
/-- soundservice/soundserviceref04.Silence -/
noncomputable def f63 (k : Nat) (x : Int × Int) : Option ((Int × List (Int)) × Int) :=
  bif (decide (x.1 < (1 : Int))) then
    some (((0 : Int), []), (2 : Int))
  else
  bif (decide (x.1 > (8 : Int))) then
    some (((0 : Int), []), (2 : Int))
  else
  bif (decide (x.2 < (0 : Int))) then
    some (((0 : Int), []), (2 : Int))
  else
  bif (decide (x.2 > (65536 : Int))) then
    some (((0 : Int), []), (2 : Int))
  else
  bif (decide (0 ≤ (IntKind.wrap .i64 (x.1 * x.2))) && decide ((IntKind.wrap .i64 (x.1 * x.2)) ≤ (IntKind.wrap .i64 (x.1 * x.2))) && decide ((IntKind.wrap .i64 (x.1 * x.2)) * ((4 : Nat) : Int) ≤ (maxBytes : Int)) && true && true) then
    some ((x.1, (List.replicate ((IntKind.wrap .i64 (x.1 * x.2))).toNat (0 : Int))), (0 : Int))
  else
    none
/-- soundservice/stream.unused -/
noncomputable def f153 (k : Nat) (x : Int × Int × Int × Int × List (Int)) : Option (Bool) :=
  bif (x.1 == (0 : Int)) then
    bif (x.2.1 == (0 : Int)) then
      bif (x.2.2.1 == (0 : Int)) then
        bif (x.2.2.2.1 == (0 : Int)) then
          some ((((x.2.2.2.2).length : Int)) == (0 : Int))
        else
          some false
      else
        some false
    else
      some false
  else
    some false
/-- soundservice/ring.Valid -/
noncomputable def f154 (k : Nat) (x : Int × Int × Int × Int × List (Int)) : Option (Bool) :=
  bif (decide (x.2.1 < (1 : Int))) then
    some false
  else
  bif (decide (x.2.1 > (65536 : Int))) then
    some false
  else
  bif (decide (x.2.2.2.1 < (0 : Int))) then
    some false
  else
  bif (decide (x.2.2.2.1 > x.2.2.1)) then
    some false
  else
  bif (decide (x.2.2.1 > (1125899906842624 : Int))) then
    some false
  else
    Option.bind (f81 k (x.1, x.2.2.2.2)) fun r1 =>
    bif r1 then
      bif (x.1 == 0) then
        none
      else
      bif ((IntKind.wrap .i64 (x.2.2.1 - x.2.2.2.1)) == (IntKind.wrap .i64 (Int.tdiv (((x.2.2.2.2).length : Int)) x.1))) then
        some (decide ((IntKind.wrap .i64 (x.2.2.1 - x.2.2.2.1)) ≤ x.2.1))
      else
        some false
    else
      some false
/-- soundservice/stream.Valid -/
noncomputable def f120 (k : Nat) (x : Int × Int × Int × Int × Int × Int × Int × Int × Int × Int × List (Int) × Int × Int × Int × Int × List (Int) × Int × Int × Int) : Option (Bool) :=
  bif (decide (x.2.1 < (1 : Int))) then
    bif (decide (x.2.1 < (1 : Int))) then
      some false
    else
    bif (x.1 == (1 : Int)) then
      Option.bind (f30 k (x.2.2.2.2.1, x.2.2.2.2.2.1, x.2.2.2.2.2.2.1, x.2.2.2.2.2.2.2.1, x.2.2.2.2.2.2.2.2.1, x.2.2.2.2.2.2.2.2.2.1, x.2.2.2.2.2.2.2.2.2.2.1)) fun r1 =>
      bif (decide (r1 ≤ x.2.2.1)) then
        Option.bind (f153 k (x.2.2.2.2.2.2.2.2.2.2.2.1, x.2.2.2.2.2.2.2.2.2.2.2.2.1, x.2.2.2.2.2.2.2.2.2.2.2.2.2.1, x.2.2.2.2.2.2.2.2.2.2.2.2.2.2.1, x.2.2.2.2.2.2.2.2.2.2.2.2.2.2.2.1)) fun r2 =>
        some r2
      else
        some false
    else
    bif (x.1 == (2 : Int)) then
      Option.bind (f154 k (x.2.2.2.2.2.2.2.2.2.2.2.1, x.2.2.2.2.2.2.2.2.2.2.2.2.1, x.2.2.2.2.2.2.2.2.2.2.2.2.2.1, x.2.2.2.2.2.2.2.2.2.2.2.2.2.2.1, x.2.2.2.2.2.2.2.2.2.2.2.2.2.2.2.1)) fun r3 =>
      bif r3 then
        bif (x.2.2.2.2.2.2.2.2.2.2.2.2.1 == x.2.2.1) then
          some (x.2.2.2.2.2.2.2.2.2.2.2.1 == x.2.2.2.2.1)
        else
          some false
      else
        some false
    else
      some false
  else
  bif (decide (x.2.1 > (7 : Int))) then
    bif (decide (x.2.1 > (7 : Int))) then
      some false
    else
    bif (x.1 == (1 : Int)) then
      Option.bind (f30 k (x.2.2.2.2.1, x.2.2.2.2.2.1, x.2.2.2.2.2.2.1, x.2.2.2.2.2.2.2.1, x.2.2.2.2.2.2.2.2.1, x.2.2.2.2.2.2.2.2.2.1, x.2.2.2.2.2.2.2.2.2.2.1)) fun r4 =>
      bif (decide (r4 ≤ x.2.2.1)) then
        Option.bind (f153 k (x.2.2.2.2.2.2.2.2.2.2.2.1, x.2.2.2.2.2.2.2.2.2.2.2.2.1, x.2.2.2.2.2.2.2.2.2.2.2.2.2.1, x.2.2.2.2.2.2.2.2.2.2.2.2.2.2.1, x.2.2.2.2.2.2.2.2.2.2.2.2.2.2.2.1)) fun r5 =>
        some r5
      else
        some false
    else
    bif (x.1 == (2 : Int)) then
      Option.bind (f154 k (x.2.2.2.2.2.2.2.2.2.2.2.1, x.2.2.2.2.2.2.2.2.2.2.2.2.1, x.2.2.2.2.2.2.2.2.2.2.2.2.2.1, x.2.2.2.2.2.2.2.2.2.2.2.2.2.2.1, x.2.2.2.2.2.2.2.2.2.2.2.2.2.2.2.1)) fun r6 =>
      bif r6 then
        bif (x.2.2.2.2.2.2.2.2.2.2.2.2.1 == x.2.2.1) then
          some (x.2.2.2.2.2.2.2.2.2.2.2.1 == x.2.2.2.2.1)
        else
          some false
      else
        some false
    else
      some false
  else
  bif (decide (x.2.2.1 < (1 : Int))) then
    bif (decide (x.2.2.1 < (1 : Int))) then
      some false
    else
    bif (x.1 == (1 : Int)) then
      Option.bind (f30 k (x.2.2.2.2.1, x.2.2.2.2.2.1, x.2.2.2.2.2.2.1, x.2.2.2.2.2.2.2.1, x.2.2.2.2.2.2.2.2.1, x.2.2.2.2.2.2.2.2.2.1, x.2.2.2.2.2.2.2.2.2.2.1)) fun r7 =>
      bif (decide (r7 ≤ x.2.2.1)) then
        Option.bind (f153 k (x.2.2.2.2.2.2.2.2.2.2.2.1, x.2.2.2.2.2.2.2.2.2.2.2.2.1, x.2.2.2.2.2.2.2.2.2.2.2.2.2.1, x.2.2.2.2.2.2.2.2.2.2.2.2.2.2.1, x.2.2.2.2.2.2.2.2.2.2.2.2.2.2.2.1)) fun r8 =>
        some r8
      else
        some false
    else
    bif (x.1 == (2 : Int)) then
      Option.bind (f154 k (x.2.2.2.2.2.2.2.2.2.2.2.1, x.2.2.2.2.2.2.2.2.2.2.2.2.1, x.2.2.2.2.2.2.2.2.2.2.2.2.2.1, x.2.2.2.2.2.2.2.2.2.2.2.2.2.2.1, x.2.2.2.2.2.2.2.2.2.2.2.2.2.2.2.1)) fun r9 =>
      bif r9 then
        bif (x.2.2.2.2.2.2.2.2.2.2.2.2.1 == x.2.2.1) then
          some (x.2.2.2.2.2.2.2.2.2.2.2.1 == x.2.2.2.2.1)
        else
          some false
      else
        some false
    else
      some false
  else
  bif (decide (x.2.2.1 > (65536 : Int))) then
    bif (decide (x.2.2.1 > (65536 : Int))) then
      some false
    else
    bif (x.1 == (1 : Int)) then
      Option.bind (f30 k (x.2.2.2.2.1, x.2.2.2.2.2.1, x.2.2.2.2.2.2.1, x.2.2.2.2.2.2.2.1, x.2.2.2.2.2.2.2.2.1, x.2.2.2.2.2.2.2.2.2.1, x.2.2.2.2.2.2.2.2.2.2.1)) fun r10 =>
      bif (decide (r10 ≤ x.2.2.1)) then
        Option.bind (f153 k (x.2.2.2.2.2.2.2.2.2.2.2.1, x.2.2.2.2.2.2.2.2.2.2.2.2.1, x.2.2.2.2.2.2.2.2.2.2.2.2.2.1, x.2.2.2.2.2.2.2.2.2.2.2.2.2.2.1, x.2.2.2.2.2.2.2.2.2.2.2.2.2.2.2.1)) fun r11 =>
        some r11
      else
        some false
    else
    bif (x.1 == (2 : Int)) then
      Option.bind (f154 k (x.2.2.2.2.2.2.2.2.2.2.2.1, x.2.2.2.2.2.2.2.2.2.2.2.2.1, x.2.2.2.2.2.2.2.2.2.2.2.2.2.1, x.2.2.2.2.2.2.2.2.2.2.2.2.2.2.1, x.2.2.2.2.2.2.2.2.2.2.2.2.2.2.2.1)) fun r12 =>
      bif r12 then
        bif (x.2.2.2.2.2.2.2.2.2.2.2.2.1 == x.2.2.1) then
          some (x.2.2.2.2.2.2.2.2.2.2.2.1 == x.2.2.2.2.1)
        else
          some false
      else
        some false
    else
      some false
  else
  bif (decide (x.2.2.2.1 < (0 : Int))) then
    bif (decide (x.2.2.2.1 < (0 : Int))) then
      some false
    else
    bif (x.1 == (1 : Int)) then
      Option.bind (f30 k (x.2.2.2.2.1, x.2.2.2.2.2.1, x.2.2.2.2.2.2.1, x.2.2.2.2.2.2.2.1, x.2.2.2.2.2.2.2.2.1, x.2.2.2.2.2.2.2.2.2.1, x.2.2.2.2.2.2.2.2.2.2.1)) fun r13 =>
      bif (decide (r13 ≤ x.2.2.1)) then
        Option.bind (f153 k (x.2.2.2.2.2.2.2.2.2.2.2.1, x.2.2.2.2.2.2.2.2.2.2.2.2.1, x.2.2.2.2.2.2.2.2.2.2.2.2.2.1, x.2.2.2.2.2.2.2.2.2.2.2.2.2.2.1, x.2.2.2.2.2.2.2.2.2.2.2.2.2.2.2.1)) fun r14 =>
        some r14
      else
        some false
    else
    bif (x.1 == (2 : Int)) then
      Option.bind (f154 k (x.2.2.2.2.2.2.2.2.2.2.2.1, x.2.2.2.2.2.2.2.2.2.2.2.2.1, x.2.2.2.2.2.2.2.2.2.2.2.2.2.1, x.2.2.2.2.2.2.2.2.2.2.2.2.2.2.1, x.2.2.2.2.2.2.2.2.2.2.2.2.2.2.2.1)) fun r15 =>
      bif r15 then
        bif (x.2.2.2.2.2.2.2.2.2.2.2.2.1 == x.2.2.1) then
          some (x.2.2.2.2.2.2.2.2.2.2.2.1 == x.2.2.2.2.1)
        else
          some false
      else
        some false
    else
      some false
  else
  bif (decide (x.2.2.2.1 > x.2.2.1)) then
    bif (decide (x.2.2.2.1 > x.2.2.1)) then
      some false
    else
    bif (x.1 == (1 : Int)) then
      Option.bind (f30 k (x.2.2.2.2.1, x.2.2.2.2.2.1, x.2.2.2.2.2.2.1, x.2.2.2.2.2.2.2.1, x.2.2.2.2.2.2.2.2.1, x.2.2.2.2.2.2.2.2.2.1, x.2.2.2.2.2.2.2.2.2.2.1)) fun r16 =>
      bif (decide (r16 ≤ x.2.2.1)) then
        Option.bind (f153 k (x.2.2.2.2.2.2.2.2.2.2.2.1, x.2.2.2.2.2.2.2.2.2.2.2.2.1, x.2.2.2.2.2.2.2.2.2.2.2.2.2.1, x.2.2.2.2.2.2.2.2.2.2.2.2.2.2.1, x.2.2.2.2.2.2.2.2.2.2.2.2.2.2.2.1)) fun r17 =>
        some r17
      else
        some false
    else
    bif (x.1 == (2 : Int)) then
      Option.bind (f154 k (x.2.2.2.2.2.2.2.2.2.2.2.1, x.2.2.2.2.2.2.2.2.2.2.2.2.1, x.2.2.2.2.2.2.2.2.2.2.2.2.2.1, x.2.2.2.2.2.2.2.2.2.2.2.2.2.2.1, x.2.2.2.2.2.2.2.2.2.2.2.2.2.2.2.1)) fun r18 =>
      bif r18 then
        bif (x.2.2.2.2.2.2.2.2.2.2.2.2.1 == x.2.2.1) then
          some (x.2.2.2.2.2.2.2.2.2.2.2.1 == x.2.2.2.2.1)
        else
          some false
      else
        some false
    else
      some false
  else
    Option.bind (f28 k (x.2.2.2.2.1, x.2.2.2.2.2.1, x.2.2.2.2.2.2.1, x.2.2.2.2.2.2.2.1, x.2.2.2.2.2.2.2.2.1, x.2.2.2.2.2.2.2.2.2.1, x.2.2.2.2.2.2.2.2.2.2.1)) fun r19 =>
    bif (!r19) then
      bif (!r19) then
        some false
      else
      bif (x.1 == (1 : Int)) then
        Option.bind (f30 k (x.2.2.2.2.1, x.2.2.2.2.2.1, x.2.2.2.2.2.2.1, x.2.2.2.2.2.2.2.1, x.2.2.2.2.2.2.2.2.1, x.2.2.2.2.2.2.2.2.2.1, x.2.2.2.2.2.2.2.2.2.2.1)) fun r20 =>
        bif (decide (r20 ≤ x.2.2.1)) then
          Option.bind (f153 k (x.2.2.2.2.2.2.2.2.2.2.2.1, x.2.2.2.2.2.2.2.2.2.2.2.2.1, x.2.2.2.2.2.2.2.2.2.2.2.2.2.1, x.2.2.2.2.2.2.2.2.2.2.2.2.2.2.1, x.2.2.2.2.2.2.2.2.2.2.2.2.2.2.2.1)) fun r21 =>
          some r21
        else
          some false
      else
      bif (x.1 == (2 : Int)) then
        Option.bind (f154 k (x.2.2.2.2.2.2.2.2.2.2.2.1, x.2.2.2.2.2.2.2.2.2.2.2.2.1, x.2.2.2.2.2.2.2.2.2.2.2.2.2.1, x.2.2.2.2.2.2.2.2.2.2.2.2.2.2.1, x.2.2.2.2.2.2.2.2.2.2.2.2.2.2.2.1)) fun r22 =>
        bif r22 then
          bif (x.2.2.2.2.2.2.2.2.2.2.2.2.1 == x.2.2.1) then
            some (x.2.2.2.2.2.2.2.2.2.2.2.1 == x.2.2.2.2.1)
          else
            some false
        else
          some false
      else
        some false
    else
    bif (x.2.2.2.2.2.2.2.1 != (0 : Int)) then
      bif (x.2.2.2.2.2.2.2.1 != (0 : Int)) then
        some false
      else
      bif (x.1 == (1 : Int)) then
        Option.bind (f30 k (x.2.2.2.2.1, x.2.2.2.2.2.1, x.2.2.2.2.2.2.1, x.2.2.2.2.2.2.2.1, x.2.2.2.2.2.2.2.2.1, x.2.2.2.2.2.2.2.2.2.1, x.2.2.2.2.2.2.2.2.2.2.1)) fun r23 =>
        bif (decide (r23 ≤ x.2.2.1)) then
          Option.bind (f153 k (x.2.2.2.2.2.2.2.2.2.2.2.1, x.2.2.2.2.2.2.2.2.2.2.2.2.1, x.2.2.2.2.2.2.2.2.2.2.2.2.2.1, x.2.2.2.2.2.2.2.2.2.2.2.2.2.2.1, x.2.2.2.2.2.2.2.2.2.2.2.2.2.2.2.1)) fun r24 =>
          some r24
        else
          some false
      else
      bif (x.1 == (2 : Int)) then
        Option.bind (f154 k (x.2.2.2.2.2.2.2.2.2.2.2.1, x.2.2.2.2.2.2.2.2.2.2.2.2.1, x.2.2.2.2.2.2.2.2.2.2.2.2.2.1, x.2.2.2.2.2.2.2.2.2.2.2.2.2.2.1, x.2.2.2.2.2.2.2.2.2.2.2.2.2.2.2.1)) fun r25 =>
        bif r25 then
          bif (x.2.2.2.2.2.2.2.2.2.2.2.2.1 == x.2.2.1) then
            some (x.2.2.2.2.2.2.2.2.2.2.2.1 == x.2.2.2.2.1)
          else
            some false
        else
          some false
      else
        some false
    else
    bif (decide (x.2.2.2.2.2.2.2.2.2.2.2.2.2.2.2.2.1 < (0 : Int))) then
      bif (decide (x.2.2.2.2.2.2.2.2.2.2.2.2.2.2.2.2.1 < (0 : Int))) then
        some false
      else
      bif (x.1 == (1 : Int)) then
        Option.bind (f30 k (x.2.2.2.2.1, x.2.2.2.2.2.1, x.2.2.2.2.2.2.1, x.2.2.2.2.2.2.2.1, x.2.2.2.2.2.2.2.2.1, x.2.2.2.2.2.2.2.2.2.1, x.2.2.2.2.2.2.2.2.2.2.1)) fun r26 =>
        bif (decide (r26 ≤ x.2.2.1)) then
          Option.bind (f153 k (x.2.2.2.2.2.2.2.2.2.2.2.1, x.2.2.2.2.2.2.2.2.2.2.2.2.1, x.2.2.2.2.2.2.2.2.2.2.2.2.2.1, x.2.2.2.2.2.2.2.2.2.2.2.2.2.2.1, x.2.2.2.2.2.2.2.2.2.2.2.2.2.2.2.1)) fun r27 =>
          some r27
        else
          some false
      else
      bif (x.1 == (2 : Int)) then
        Option.bind (f154 k (x.2.2.2.2.2.2.2.2.2.2.2.1, x.2.2.2.2.2.2.2.2.2.2.2.2.1, x.2.2.2.2.2.2.2.2.2.2.2.2.2.1, x.2.2.2.2.2.2.2.2.2.2.2.2.2.2.1, x.2.2.2.2.2.2.2.2.2.2.2.2.2.2.2.1)) fun r28 =>
        bif r28 then
          bif (x.2.2.2.2.2.2.2.2.2.2.2.2.1 == x.2.2.1) then
            some (x.2.2.2.2.2.2.2.2.2.2.2.1 == x.2.2.2.2.1)
          else
            some false
        else
          some false
      else
        some false
    else
    bif (decide (x.2.2.2.2.2.2.2.2.2.2.2.2.2.2.2.2.2.1 < (0 : Int))) then
      bif (decide (x.2.2.2.2.2.2.2.2.2.2.2.2.2.2.2.2.2.1 < (0 : Int))) then
        some false
      else
      bif (x.1 == (1 : Int)) then
        Option.bind (f30 k (x.2.2.2.2.1, x.2.2.2.2.2.1, x.2.2.2.2.2.2.1, x.2.2.2.2.2.2.2.1, x.2.2.2.2.2.2.2.2.1, x.2.2.2.2.2.2.2.2.2.1, x.2.2.2.2.2.2.2.2.2.2.1)) fun r29 =>
        bif (decide (r29 ≤ x.2.2.1)) then
          Option.bind (f153 k (x.2.2.2.2.2.2.2.2.2.2.2.1, x.2.2.2.2.2.2.2.2.2.2.2.2.1, x.2.2.2.2.2.2.2.2.2.2.2.2.2.1, x.2.2.2.2.2.2.2.2.2.2.2.2.2.2.1, x.2.2.2.2.2.2.2.2.2.2.2.2.2.2.2.1)) fun r30 =>
          some r30
        else
          some false
      else
      bif (x.1 == (2 : Int)) then
        Option.bind (f154 k (x.2.2.2.2.2.2.2.2.2.2.2.1, x.2.2.2.2.2.2.2.2.2.2.2.2.1, x.2.2.2.2.2.2.2.2.2.2.2.2.2.1, x.2.2.2.2.2.2.2.2.2.2.2.2.2.2.1, x.2.2.2.2.2.2.2.2.2.2.2.2.2.2.2.1)) fun r31 =>
        bif r31 then
          bif (x.2.2.2.2.2.2.2.2.2.2.2.2.1 == x.2.2.1) then
            some (x.2.2.2.2.2.2.2.2.2.2.2.1 == x.2.2.2.2.1)
          else
            some false
        else
          some false
      else
        some false
    else
    bif (decide (x.2.2.2.2.2.2.2.2.2.2.2.2.2.2.2.2.2.2 < (0 : Int))) then
      some false
    else
    bif (x.1 == (1 : Int)) then
      Option.bind (f30 k (x.2.2.2.2.1, x.2.2.2.2.2.1, x.2.2.2.2.2.2.1, x.2.2.2.2.2.2.2.1, x.2.2.2.2.2.2.2.2.1, x.2.2.2.2.2.2.2.2.2.1, x.2.2.2.2.2.2.2.2.2.2.1)) fun r32 =>
      bif (decide (r32 ≤ x.2.2.1)) then
        Option.bind (f153 k (x.2.2.2.2.2.2.2.2.2.2.2.1, x.2.2.2.2.2.2.2.2.2.2.2.2.1, x.2.2.2.2.2.2.2.2.2.2.2.2.2.1, x.2.2.2.2.2.2.2.2.2.2.2.2.2.2.1, x.2.2.2.2.2.2.2.2.2.2.2.2.2.2.2.1)) fun r33 =>
        some r33
      else
        some false
    else
    bif (x.1 == (2 : Int)) then
      Option.bind (f154 k (x.2.2.2.2.2.2.2.2.2.2.2.1, x.2.2.2.2.2.2.2.2.2.2.2.2.1, x.2.2.2.2.2.2.2.2.2.2.2.2.2.1, x.2.2.2.2.2.2.2.2.2.2.2.2.2.2.1, x.2.2.2.2.2.2.2.2.2.2.2.2.2.2.2.1)) fun r34 =>
      bif r34 then
        bif (x.2.2.2.2.2.2.2.2.2.2.2.2.1 == x.2.2.1) then
          some (x.2.2.2.2.2.2.2.2.2.2.2.1 == x.2.2.2.2.1)
        else
          some false
      else
        some false
    else
      some false
/-- soundservice/ring.New -/
noncomputable def f121 (k : Nat) (x : Int × Int) : Option ((Int × Int × Int × Int × List (Int)) × Int) :=
  Option.bind (f154 k (x.1, x.2, (0 : Int), (0 : Int), [])) fun r1 =>
  bif (!r1) then
    some (((0 : Int), (0 : Int), (0 : Int), (0 : Int), []), (2 : Int))
  else
    some ((x.1, x.2, (0 : Int), (0 : Int), []), (0 : Int))
/-- soundservice/stream.New -/
noncomputable def f71 (k : Nat) (x : Int × Int × (Int × Int) × Int × Int) : Option ((Int × Int × Int × Int × Int × Int × Int × Int × Int × Int × List (Int) × Int × Int × Int × Int × List (Int) × Int × Int × Int) × Int) :=
  Option.bind (f32 k (x.2.1, x.2.2.1)) fun r1 =>
  bif (x.1 == (2 : Int)) then
    Option.bind (f121 k (x.2.1, x.2.2.2.1)) fun r2 =>
    Option.bind (f120 k (x.1, (1 : Int), x.2.2.2.1, x.2.2.2.2, r1.1.1, r1.1.2.1, r1.1.2.2.1, r1.1.2.2.2.1, r1.1.2.2.2.2.1, r1.1.2.2.2.2.2.1, r1.1.2.2.2.2.2.2, r2.1.1, r2.1.2.1, r2.1.2.2.1, r2.1.2.2.2.1, r2.1.2.2.2.2, (0 : Int), (0 : Int), (0 : Int))) fun r3 =>
    bif (!r3) then
      some (((0 : Int), (0 : Int), (0 : Int), (0 : Int), (0 : Int), (0 : Int), (0 : Int), (0 : Int), (0 : Int), (0 : Int), [], (0 : Int), (0 : Int), (0 : Int), (0 : Int), [], (0 : Int), (0 : Int), (0 : Int)), (1 : Int))
    else
      some ((x.1, (1 : Int), x.2.2.2.1, x.2.2.2.2, r1.1.1, r1.1.2.1, r1.1.2.2.1, r1.1.2.2.2.1, r1.1.2.2.2.2.1, r1.1.2.2.2.2.2.1, r1.1.2.2.2.2.2.2, r2.1.1, r2.1.2.1, r2.1.2.2.1, r2.1.2.2.2.1, r2.1.2.2.2.2, (0 : Int), (0 : Int), (0 : Int)), (0 : Int))
  else
    Option.bind (f120 k (x.1, (1 : Int), x.2.2.2.1, x.2.2.2.2, r1.1.1, r1.1.2.1, r1.1.2.2.1, r1.1.2.2.2.1, r1.1.2.2.2.2.1, r1.1.2.2.2.2.2.1, r1.1.2.2.2.2.2.2, (0 : Int), (0 : Int), (0 : Int), (0 : Int), [], (0 : Int), (0 : Int), (0 : Int))) fun r4 =>
    bif (!r4) then
      some (((0 : Int), (0 : Int), (0 : Int), (0 : Int), (0 : Int), (0 : Int), (0 : Int), (0 : Int), (0 : Int), (0 : Int), [], (0 : Int), (0 : Int), (0 : Int), (0 : Int), [], (0 : Int), (0 : Int), (0 : Int)), (1 : Int))
    else
      some ((x.1, (1 : Int), x.2.2.2.1, x.2.2.2.2, r1.1.1, r1.1.2.1, r1.1.2.2.1, r1.1.2.2.2.1, r1.1.2.2.2.2.1, r1.1.2.2.2.2.2.1, r1.1.2.2.2.2.2.2, (0 : Int), (0 : Int), (0 : Int), (0 : Int), [], (0 : Int), (0 : Int), (0 : Int)), (0 : Int))
/-- soundservice/ring.Fill -/
noncomputable def f129 (k : Nat) (x : Int × Int × Int × Int × List (Int)) : Option (Int) :=
  Option.bind (f154 k x) fun r1 =>
  bif (!r1) then
    some (0 : Int)
  else
    some (IntKind.wrap .i64 (x.2.2.1 - x.2.2.2.1))
/-- soundservice/stream.Waiting -/
noncomputable def f77 (k : Nat) (x : Int × Int × Int × Int × Int × Int × Int × Int × Int × Int × List (Int) × Int × Int × Int × Int × List (Int) × Int × Int × Int) : Option (Int) :=
  Option.bind (f120 k x) fun r1 =>
  bif (!r1) then
    some (0 : Int)
  else
  bif (x.1 == (2 : Int)) then
    Option.bind (f129 k (x.2.2.2.2.2.2.2.2.2.2.2.1, x.2.2.2.2.2.2.2.2.2.2.2.2.1, x.2.2.2.2.2.2.2.2.2.2.2.2.2.1, x.2.2.2.2.2.2.2.2.2.2.2.2.2.2.1, x.2.2.2.2.2.2.2.2.2.2.2.2.2.2.2.1)) fun r2 =>
    some r2
  else
    Option.bind (f30 k (x.2.2.2.2.1, x.2.2.2.2.2.1, x.2.2.2.2.2.2.1, x.2.2.2.2.2.2.2.1, x.2.2.2.2.2.2.2.2.1, x.2.2.2.2.2.2.2.2.2.1, x.2.2.2.2.2.2.2.2.2.2.1)) fun r3 =>
    some r3
/-- soundservice/stream.Room -/
noncomputable def f76 (k : Nat) (x : Int × Int × Int × Int × Int × Int × Int × Int × Int × Int × List (Int) × Int × Int × Int × Int × List (Int) × Int × Int × Int) : Option (Int) :=
  Option.bind (f120 k x) fun r1 =>
  bif (!r1) then
    some (0 : Int)
  else
    Option.bind (f77 k x) fun r2 =>
    some (IntKind.wrap .i64 (x.2.2.1 - r2))
/-- soundservice/stream.is -/
noncomputable def f122 (k : Nat) (x : (Int × Int × Int × Int × Int × Int × Int × Int × Int × Int × List (Int) × Int × Int × Int × Int × List (Int) × Int × Int × Int) × Int) : Option (Bool) :=
  Option.bind (f120 k x.1) fun r1 =>
  bif r1 then
    some (x.1.1 == x.2)
  else
    some false
/-- soundservice/stream.Write -/
noncomputable def f72 (k : Nat) (x : (Int × Int × Int × Int × Int × Int × Int × Int × Int × Int × List (Int) × Int × Int × Int × Int × List (Int) × Int × Int × Int) × Int × List (Int)) : Option ((Int × Int × Int × Int × Int × Int × Int × Int × Int × Int × List (Int) × Int × Int × Int × Int × List (Int) × Int × Int × Int) × Int) :=
  Option.bind (f122 k (x.1, (1 : Int))) fun r1 =>
  bif (!r1) then
    some (((0 : Int), (0 : Int), (0 : Int), (0 : Int), (0 : Int), (0 : Int), (0 : Int), (0 : Int), (0 : Int), (0 : Int), [], (0 : Int), (0 : Int), (0 : Int), (0 : Int), [], (0 : Int), (0 : Int), (0 : Int)), (1 : Int))
  else
    Option.bind (f81 k x.2) fun r2 =>
    bif (!r2) then
      some (((0 : Int), (0 : Int), (0 : Int), (0 : Int), (0 : Int), (0 : Int), (0 : Int), (0 : Int), (0 : Int), (0 : Int), [], (0 : Int), (0 : Int), (0 : Int), (0 : Int), [], (0 : Int), (0 : Int), (0 : Int)), (1 : Int))
    else
    bif (x.2.1 != x.1.2.2.2.2.1) then
      some (((0 : Int), (0 : Int), (0 : Int), (0 : Int), (0 : Int), (0 : Int), (0 : Int), (0 : Int), (0 : Int), (0 : Int), [], (0 : Int), (0 : Int), (0 : Int), (0 : Int), [], (0 : Int), (0 : Int), (0 : Int)), (11 : Int))
    else
    bif (decide (x.1.2.1 ≥ (5 : Int))) then
      some (((0 : Int), (0 : Int), (0 : Int), (0 : Int), (0 : Int), (0 : Int), (0 : Int), (0 : Int), (0 : Int), (0 : Int), [], (0 : Int), (0 : Int), (0 : Int), (0 : Int), [], (0 : Int), (0 : Int), (0 : Int)), (9 : Int))
    else
    bif (x.2.1 == 0) then
      none
    else
      Option.bind (f76 k x.1) fun r3 =>
      bif (decide ((IntKind.wrap .i64 (Int.tdiv (((x.2.2).length : Int)) x.2.1)) > r3)) then
        some (((0 : Int), (0 : Int), (0 : Int), (0 : Int), (0 : Int), (0 : Int), (0 : Int), (0 : Int), (0 : Int), (0 : Int), [], (0 : Int), (0 : Int), (0 : Int), (0 : Int), [], (0 : Int), (0 : Int), (0 : Int)), (10 : Int))
      else
        Option.bind (f25 k ((x.1.2.2.2.2.1, x.1.2.2.2.2.2.1, x.1.2.2.2.2.2.2.1, x.1.2.2.2.2.2.2.2.1, x.1.2.2.2.2.2.2.2.2.1, x.1.2.2.2.2.2.2.2.2.2.1, x.1.2.2.2.2.2.2.2.2.2.2.1), x.2)) fun r4 =>
        bif (x.1.2.1 == (1 : Int)) then
          bif (decide ((IntKind.wrap .i64 (Int.tdiv (((x.2.2).length : Int)) x.2.1)) > (0 : Int))) then
            some ((x.1.1, (2 : Int), x.1.2.2.1, x.1.2.2.2.1, r4.1.1, r4.1.2.1, r4.1.2.2.1, r4.1.2.2.2.1, r4.1.2.2.2.2.1, r4.1.2.2.2.2.2.1, r4.1.2.2.2.2.2.2, x.1.2.2.2.2.2.2.2.2.2.2.2.1, x.1.2.2.2.2.2.2.2.2.2.2.2.2.1, x.1.2.2.2.2.2.2.2.2.2.2.2.2.2.1, x.1.2.2.2.2.2.2.2.2.2.2.2.2.2.2.1, x.1.2.2.2.2.2.2.2.2.2.2.2.2.2.2.2.1, (IntKind.wrap .i64 (x.1.2.2.2.2.2.2.2.2.2.2.2.2.2.2.2.2.1 + (IntKind.wrap .i64 (Int.tdiv (((x.2.2).length : Int)) x.2.1)))), x.1.2.2.2.2.2.2.2.2.2.2.2.2.2.2.2.2.2), (0 : Int))
          else
            some ((x.1.1, x.1.2.1, x.1.2.2.1, x.1.2.2.2.1, r4.1.1, r4.1.2.1, r4.1.2.2.1, r4.1.2.2.2.1, r4.1.2.2.2.2.1, r4.1.2.2.2.2.2.1, r4.1.2.2.2.2.2.2, x.1.2.2.2.2.2.2.2.2.2.2.2.1, x.1.2.2.2.2.2.2.2.2.2.2.2.2.1, x.1.2.2.2.2.2.2.2.2.2.2.2.2.2.1, x.1.2.2.2.2.2.2.2.2.2.2.2.2.2.2.1, x.1.2.2.2.2.2.2.2.2.2.2.2.2.2.2.2.1, (IntKind.wrap .i64 (x.1.2.2.2.2.2.2.2.2.2.2.2.2.2.2.2.2.1 + (IntKind.wrap .i64 (Int.tdiv (((x.2.2).length : Int)) x.2.1)))), x.1.2.2.2.2.2.2.2.2.2.2.2.2.2.2.2.2.2), (0 : Int))
        else
          some ((x.1.1, x.1.2.1, x.1.2.2.1, x.1.2.2.2.1, r4.1.1, r4.1.2.1, r4.1.2.2.1, r4.1.2.2.2.1, r4.1.2.2.2.2.1, r4.1.2.2.2.2.2.1, r4.1.2.2.2.2.2.2, x.1.2.2.2.2.2.2.2.2.2.2.2.1, x.1.2.2.2.2.2.2.2.2.2.2.2.2.1, x.1.2.2.2.2.2.2.2.2.2.2.2.2.2.1, x.1.2.2.2.2.2.2.2.2.2.2.2.2.2.2.1, x.1.2.2.2.2.2.2.2.2.2.2.2.2.2.2.2.1, (IntKind.wrap .i64 (x.1.2.2.2.2.2.2.2.2.2.2.2.2.2.2.2.2.1 + (IntKind.wrap .i64 (Int.tdiv (((x.2.2).length : Int)) x.2.1)))), x.1.2.2.2.2.2.2.2.2.2.2.2.2.2.2.2.2.2), (0 : Int))
/-- soundservice/ring.Clear -/
noncomputable def f164 (k : Nat) (x : Int × Int × Int × Int × List (Int)) : Option ((Int × Int × Int × Int × List (Int)) × Int) :=
  Option.bind (f154 k x) fun r1 =>
  bif (!r1) then
    some (((0 : Int), (0 : Int), (0 : Int), (0 : Int), []), (1 : Int))
  else
    some ((x.1, x.2.1, x.2.2.1, x.2.2.1, []), (0 : Int))
/-- soundservice/stream.empty -/
noncomputable def f163 (k : Nat) (x : Int × Int × Int × Int × Int × Int × Int × Int × Int × Int × List (Int) × Int × Int × Int × Int × List (Int) × Int × Int × Int) : Option (Int × Int × Int × Int × Int × Int × Int × Int × Int × Int × List (Int) × Int × Int × Int × Int × List (Int) × Int × Int × Int) :=
  Option.bind (f32 k (x.2.2.2.2.1, x.2.2.2.2.2.1, x.2.2.2.2.2.2.1)) fun r1 =>
  bif (x.1 == (2 : Int)) then
    Option.bind (f164 k (x.2.2.2.2.2.2.2.2.2.2.2.1, x.2.2.2.2.2.2.2.2.2.2.2.2.1, x.2.2.2.2.2.2.2.2.2.2.2.2.2.1, x.2.2.2.2.2.2.2.2.2.2.2.2.2.2.1, x.2.2.2.2.2.2.2.2.2.2.2.2.2.2.2.1)) fun r2 =>
    some (x.1, x.2.1, x.2.2.1, x.2.2.2.1, r1.1.1, r1.1.2.1, r1.1.2.2.1, r1.1.2.2.2.1, r1.1.2.2.2.2.1, r1.1.2.2.2.2.2.1, r1.1.2.2.2.2.2.2, r2.1.1, r2.1.2.1, r2.1.2.2.1, r2.1.2.2.2.1, r2.1.2.2.2.2, x.2.2.2.2.2.2.2.2.2.2.2.2.2.2.2.2)
  else
    some (x.1, x.2.1, x.2.2.1, x.2.2.2.1, r1.1.1, r1.1.2.1, r1.1.2.2.1, r1.1.2.2.2.1, r1.1.2.2.2.2.1, r1.1.2.2.2.2.2.1, r1.1.2.2.2.2.2.2, x.2.2.2.2.2.2.2.2.2.2.2)
/-- soundservice/stream.rewind -/
noncomputable def f157 (k : Nat) (x : Int × Int × Int × Int × Int × Int × Int × Int × Int × Int × List (Int) × Int × Int × Int × Int × List (Int) × Int × Int × Int) : Option (Int × Int × Int × Int × Int × Int × Int × Int × Int × Int × List (Int) × Int × Int × Int × Int × List (Int) × Int × Int × Int) :=
  bif (x.2.1 == (2 : Int)) then
    Option.bind (f163 k (x.1, (1 : Int), x.2.2)) fun r1 =>
    some r1
  else
    Option.bind (f163 k x) fun r2 =>
    some r2
/-- slices.Index[[]int,int] -/
noncomputable def L158_2 (k : Nat) {R : Type} (K0 : Int → Option R) (K1 : Unit → Option R) (y : List (Int) × Int × Int × Int) (next : (List (Int) × Int × Int × Int) → Option R) : Option R :=
  bif (decide (y.2.2.2 < y.2.2.1)) then
    bif (decide (0 ≤ y.2.2.2) && decide (y.2.2.2 < ((y.1).length : Int))) then
      bif (y.2.1 == ((y.1).getD (y.2.2.2).toNat (0 : Int))) then
        K0 y.2.2.2
      else
        next (y.1, y.2.1, y.2.2.1, (IntKind.wrap .i64 (y.2.2.2 + (1 : Int))))
    else
      none
  else
    K1 ()
noncomputable def f158 (k : Nat) (x : List (Int) × Int) : Option (Int) :=
  loopC k (L158_2 k
    (fun z1 =>
      some z1)
    (fun z2 =>
      some (-1 : Int)))
    (x.1, x.2, (((x.1).length : Int)), (0 : Int))
/-- slices.Contains[[]int,int] -/
noncomputable def f124 (k : Nat) (x : List (Int) × Int) : Option (Bool) :=
  Option.bind (f158 k x) fun r1 =>
  some (decide (r1 ≥ (0 : Int)))
/-- soundservice/stream.own -/
noncomputable def f125 (k : Nat) (x : Int × Int × Int × Int × Int × Int × Int × Int × Int × Int × List (Int) × Int × Int × Int × Int × List (Int) × Int × Int × Int) : Option (Int × Int × Int × Int × Int × Int × Int × Int × Int × Int × List (Int) × Int × Int × Int × Int × List (Int) × Int × Int × Int) :=
  Option.bind (f143 k x.2.2.2.2.2.2.2.2.2.2.1) fun r1 =>
  Option.bind (f143 k x.2.2.2.2.2.2.2.2.2.2.2.2.2.2.2.1) fun r2 =>
  some (x.1, x.2.1, x.2.2.1, x.2.2.2.1, x.2.2.2.2.1, x.2.2.2.2.2.1, x.2.2.2.2.2.2.1, x.2.2.2.2.2.2.2.1, x.2.2.2.2.2.2.2.2.1, x.2.2.2.2.2.2.2.2.2.1, r1, x.2.2.2.2.2.2.2.2.2.2.2.1, x.2.2.2.2.2.2.2.2.2.2.2.2.1, x.2.2.2.2.2.2.2.2.2.2.2.2.2.1, x.2.2.2.2.2.2.2.2.2.2.2.2.2.2.1, r2, x.2.2.2.2.2.2.2.2.2.2.2.2.2.2.2.2)
/-- soundservice/stream.turn$1 -/
noncomputable def f161 (k : Nat) (x : (Int × Int × Int × Int × Int × Int × Int × Int × Int × Int × List (Int) × Int × Int × Int × Int × List (Int) × Int × Int × Int) × Int) : Option ((Int × Int × Int × Int × Int × Int × Int × Int × Int × Int × List (Int) × Int × Int × Int × Int × List (Int) × Int × Int × Int) × Int) :=
  some ((x.1.1, x.2, x.1.2.2), x.2)
/-- soundservice/stream.end$1 -/
noncomputable def f162 (k : Nat) (x : (Int × Int × Int × Int × Int × Int × Int × Int × Int × Int × List (Int) × Int × Int × Int × Int × List (Int) × Int × Int × Int) × Int) : Option ((Int × Int × Int × Int × Int × Int × Int × Int × Int × Int × List (Int) × Int × Int × Int × Int × List (Int) × Int × Int × Int) × Int) :=
  Option.bind (f163 k (x.1.1, x.2, x.1.2.2)) fun r1 =>
  some (r1, x.2)
/-- soundservice/stream.Do -/
noncomputable def f73_1 (k : Nat) (x : Int × Int × Int × Int × Int × Int × Int × Int × Int × Int × List (Int) × Int × Int × Int × Int × List (Int) × Int × Int × Int) : Option ((Int × Int × Int × Int × Int × Int × Int × Int × Int × Int × List (Int) × Int × Int × Int × Int × List (Int) × Int × Int × Int) × Int) :=
  Option.bind (f120 k x) fun r1 =>
  bif (!r1) then
    some (((0 : Int), (0 : Int), (0 : Int), (0 : Int), (0 : Int), (0 : Int), (0 : Int), (0 : Int), (0 : Int), (0 : Int), [], (0 : Int), (0 : Int), (0 : Int), (0 : Int), [], (0 : Int), (0 : Int), (0 : Int)), (1 : Int))
  else
    Option.bind (f124 k ([(1 : Int), (2 : Int)], x.2.1)) fun r2 =>
    bif (!r2) then
      bif (!r2) then
        some (((0 : Int), (0 : Int), (0 : Int), (0 : Int), (0 : Int), (0 : Int), (0 : Int), (0 : Int), (0 : Int), (0 : Int), [], (0 : Int), (0 : Int), (0 : Int), (0 : Int), [], (0 : Int), (0 : Int), (0 : Int)), (9 : Int))
      else
      bif (x.2.1 == (2 : Int)) then
        bif (x.1 == (1 : Int)) then
          Option.bind (f77 k x) fun r3 =>
          bif (decide (r3 < x.2.2.2.1)) then
            some (((0 : Int), (0 : Int), (0 : Int), (0 : Int), (0 : Int), (0 : Int), (0 : Int), (0 : Int), (0 : Int), (0 : Int), [], (0 : Int), (0 : Int), (0 : Int), (0 : Int), [], (0 : Int), (0 : Int), (0 : Int)), (4 : Int))
          else
            Option.bind (f125 k x) fun r4 =>
            Option.bind (f161 k (r4, (3 : Int))) fun r5 =>
            some (r5.1, (0 : Int))
        else
          Option.bind (f125 k x) fun r6 =>
          Option.bind (f161 k (r6, (3 : Int))) fun r7 =>
          some (r7.1, (0 : Int))
      else
        Option.bind (f125 k x) fun r8 =>
        Option.bind (f161 k (r8, (3 : Int))) fun r9 =>
        some (r9.1, (0 : Int))
    else
    bif (x.2.1 == (1 : Int)) then
      bif (x.1 == (1 : Int)) then
        bif (decide (x.2.2.2.1 > (0 : Int))) then
          some (((0 : Int), (0 : Int), (0 : Int), (0 : Int), (0 : Int), (0 : Int), (0 : Int), (0 : Int), (0 : Int), (0 : Int), [], (0 : Int), (0 : Int), (0 : Int), (0 : Int), [], (0 : Int), (0 : Int), (0 : Int)), (9 : Int))
        else
        bif (x.2.1 == (2 : Int)) then
          bif (x.1 == (1 : Int)) then
            Option.bind (f77 k x) fun r10 =>
            bif (decide (r10 < x.2.2.2.1)) then
              some (((0 : Int), (0 : Int), (0 : Int), (0 : Int), (0 : Int), (0 : Int), (0 : Int), (0 : Int), (0 : Int), (0 : Int), [], (0 : Int), (0 : Int), (0 : Int), (0 : Int), [], (0 : Int), (0 : Int), (0 : Int)), (4 : Int))
            else
              Option.bind (f125 k x) fun r11 =>
              Option.bind (f161 k (r11, (3 : Int))) fun r12 =>
              some (r12.1, (0 : Int))
          else
            Option.bind (f125 k x) fun r13 =>
            Option.bind (f161 k (r13, (3 : Int))) fun r14 =>
            some (r14.1, (0 : Int))
        else
          Option.bind (f125 k x) fun r15 =>
          Option.bind (f161 k (r15, (3 : Int))) fun r16 =>
          some (r16.1, (0 : Int))
      else
      bif (x.2.1 == (2 : Int)) then
        bif (x.1 == (1 : Int)) then
          Option.bind (f77 k x) fun r17 =>
          bif (decide (r17 < x.2.2.2.1)) then
            some (((0 : Int), (0 : Int), (0 : Int), (0 : Int), (0 : Int), (0 : Int), (0 : Int), (0 : Int), (0 : Int), (0 : Int), [], (0 : Int), (0 : Int), (0 : Int), (0 : Int), [], (0 : Int), (0 : Int), (0 : Int)), (4 : Int))
          else
            Option.bind (f125 k x) fun r18 =>
            Option.bind (f161 k (r18, (3 : Int))) fun r19 =>
            some (r19.1, (0 : Int))
        else
          Option.bind (f125 k x) fun r20 =>
          Option.bind (f161 k (r20, (3 : Int))) fun r21 =>
          some (r21.1, (0 : Int))
      else
        Option.bind (f125 k x) fun r22 =>
        Option.bind (f161 k (r22, (3 : Int))) fun r23 =>
        some (r23.1, (0 : Int))
    else
    bif (x.2.1 == (2 : Int)) then
      bif (x.1 == (1 : Int)) then
        Option.bind (f77 k x) fun r24 =>
        bif (decide (r24 < x.2.2.2.1)) then
          some (((0 : Int), (0 : Int), (0 : Int), (0 : Int), (0 : Int), (0 : Int), (0 : Int), (0 : Int), (0 : Int), (0 : Int), [], (0 : Int), (0 : Int), (0 : Int), (0 : Int), [], (0 : Int), (0 : Int), (0 : Int)), (4 : Int))
        else
          Option.bind (f125 k x) fun r25 =>
          Option.bind (f161 k (r25, (3 : Int))) fun r26 =>
          some (r26.1, (0 : Int))
      else
        Option.bind (f125 k x) fun r27 =>
        Option.bind (f161 k (r27, (3 : Int))) fun r28 =>
        some (r28.1, (0 : Int))
    else
      Option.bind (f125 k x) fun r29 =>
      Option.bind (f161 k (r29, (3 : Int))) fun r30 =>
      some (r30.1, (0 : Int))
noncomputable def f73_2 (k : Nat) (x : Int × Int × Int × Int × Int × Int × Int × Int × Int × Int × List (Int) × Int × Int × Int × Int × List (Int) × Int × Int × Int) : Option ((Int × Int × Int × Int × Int × Int × Int × Int × Int × Int × List (Int) × Int × Int × Int × Int × List (Int) × Int × Int × Int) × Int) :=
  Option.bind (f120 k x) fun r1 =>
  bif (!r1) then
    some (((0 : Int), (0 : Int), (0 : Int), (0 : Int), (0 : Int), (0 : Int), (0 : Int), (0 : Int), (0 : Int), (0 : Int), [], (0 : Int), (0 : Int), (0 : Int), (0 : Int), [], (0 : Int), (0 : Int), (0 : Int)), (1 : Int))
  else
    Option.bind (f124 k ([(3 : Int)], x.2.1)) fun r2 =>
    bif (!r2) then
      bif (!r2) then
        some (((0 : Int), (0 : Int), (0 : Int), (0 : Int), (0 : Int), (0 : Int), (0 : Int), (0 : Int), (0 : Int), (0 : Int), [], (0 : Int), (0 : Int), (0 : Int), (0 : Int), [], (0 : Int), (0 : Int), (0 : Int)), (9 : Int))
      else
        Option.bind (f125 k x) fun r3 =>
        Option.bind (f161 k (r3, (4 : Int))) fun r4 =>
        some (r4.1, (0 : Int))
    else
      Option.bind (f125 k x) fun r5 =>
      Option.bind (f161 k (r5, (4 : Int))) fun r6 =>
      some (r6.1, (0 : Int))
noncomputable def f73_3 (k : Nat) (x : Int × Int × Int × Int × Int × Int × Int × Int × Int × Int × List (Int) × Int × Int × Int × Int × List (Int) × Int × Int × Int) : Option ((Int × Int × Int × Int × Int × Int × Int × Int × Int × Int × List (Int) × Int × Int × Int × Int × List (Int) × Int × Int × Int) × Int) :=
  Option.bind (f120 k x) fun r1 =>
  bif (!r1) then
    some (((0 : Int), (0 : Int), (0 : Int), (0 : Int), (0 : Int), (0 : Int), (0 : Int), (0 : Int), (0 : Int), (0 : Int), [], (0 : Int), (0 : Int), (0 : Int), (0 : Int), [], (0 : Int), (0 : Int), (0 : Int)), (1 : Int))
  else
    Option.bind (f124 k ([(4 : Int)], x.2.1)) fun r2 =>
    bif (!r2) then
      bif (!r2) then
        some (((0 : Int), (0 : Int), (0 : Int), (0 : Int), (0 : Int), (0 : Int), (0 : Int), (0 : Int), (0 : Int), (0 : Int), [], (0 : Int), (0 : Int), (0 : Int), (0 : Int), [], (0 : Int), (0 : Int), (0 : Int)), (9 : Int))
      else
        Option.bind (f125 k x) fun r3 =>
        Option.bind (f161 k (r3, (3 : Int))) fun r4 =>
        some (r4.1, (0 : Int))
    else
      Option.bind (f125 k x) fun r5 =>
      Option.bind (f161 k (r5, (3 : Int))) fun r6 =>
      some (r6.1, (0 : Int))
noncomputable def f73_4 (k : Nat) (x : Int × Int × Int × Int × Int × Int × Int × Int × Int × Int × List (Int) × Int × Int × Int × Int × List (Int) × Int × Int × Int) : Option ((Int × Int × Int × Int × Int × Int × Int × Int × Int × Int × List (Int) × Int × Int × Int × Int × List (Int) × Int × Int × Int) × Int) :=
  Option.bind (f120 k x) fun r1 =>
  bif (!r1) then
    some (((0 : Int), (0 : Int), (0 : Int), (0 : Int), (0 : Int), (0 : Int), (0 : Int), (0 : Int), (0 : Int), (0 : Int), [], (0 : Int), (0 : Int), (0 : Int), (0 : Int), [], (0 : Int), (0 : Int), (0 : Int)), (1 : Int))
  else
    Option.bind (f124 k ([(2 : Int), (3 : Int), (4 : Int)], x.2.1)) fun r2 =>
    bif (!r2) then
      bif (!r2) then
        some (((0 : Int), (0 : Int), (0 : Int), (0 : Int), (0 : Int), (0 : Int), (0 : Int), (0 : Int), (0 : Int), (0 : Int), [], (0 : Int), (0 : Int), (0 : Int), (0 : Int), [], (0 : Int), (0 : Int), (0 : Int)), (9 : Int))
      else
        Option.bind (f125 k x) fun r3 =>
        Option.bind (f161 k (r3, (5 : Int))) fun r4 =>
        some (r4.1, (0 : Int))
    else
    bif (!(x.1 == (1 : Int))) then
      bif (!(x.1 == (1 : Int))) then
        some (((0 : Int), (0 : Int), (0 : Int), (0 : Int), (0 : Int), (0 : Int), (0 : Int), (0 : Int), (0 : Int), (0 : Int), [], (0 : Int), (0 : Int), (0 : Int), (0 : Int), [], (0 : Int), (0 : Int), (0 : Int)), (9 : Int))
      else
        Option.bind (f125 k x) fun r5 =>
        Option.bind (f161 k (r5, (5 : Int))) fun r6 =>
        some (r6.1, (0 : Int))
    else
      Option.bind (f125 k x) fun r7 =>
      Option.bind (f161 k (r7, (5 : Int))) fun r8 =>
      some (r8.1, (0 : Int))
noncomputable def f73_5 (k : Nat) (x : Int × Int × Int × Int × Int × Int × Int × Int × Int × Int × List (Int) × Int × Int × Int × Int × List (Int) × Int × Int × Int) : Option ((Int × Int × Int × Int × Int × Int × Int × Int × Int × Int × List (Int) × Int × Int × Int × Int × List (Int) × Int × Int × Int) × Int) :=
  Option.bind (f120 k x) fun r1 =>
  bif (!r1) then
    some (((0 : Int), (0 : Int), (0 : Int), (0 : Int), (0 : Int), (0 : Int), (0 : Int), (0 : Int), (0 : Int), (0 : Int), [], (0 : Int), (0 : Int), (0 : Int), (0 : Int), [], (0 : Int), (0 : Int), (0 : Int)), (1 : Int))
  else
    Option.bind (f124 k ([(1 : Int), (2 : Int), (3 : Int), (4 : Int), (5 : Int)], x.2.1)) fun r2 =>
    bif (!r2) then
      bif (!r2) then
        some (((0 : Int), (0 : Int), (0 : Int), (0 : Int), (0 : Int), (0 : Int), (0 : Int), (0 : Int), (0 : Int), (0 : Int), [], (0 : Int), (0 : Int), (0 : Int), (0 : Int), [], (0 : Int), (0 : Int), (0 : Int)), (9 : Int))
      else
        Option.bind (f125 k x) fun r3 =>
        Option.bind (f162 k (r3, (6 : Int))) fun r4 =>
        some (r4.1, (0 : Int))
    else
      Option.bind (f125 k x) fun r5 =>
      Option.bind (f162 k (r5, (6 : Int))) fun r6 =>
      some (r6.1, (0 : Int))
noncomputable def f73_6 (k : Nat) (x : Int × Int × Int × Int × Int × Int × Int × Int × Int × Int × List (Int) × Int × Int × Int × Int × List (Int) × Int × Int × Int) : Option ((Int × Int × Int × Int × Int × Int × Int × Int × Int × Int × List (Int) × Int × Int × Int × Int × List (Int) × Int × Int × Int) × Int) :=
  Option.bind (f120 k x) fun r1 =>
  bif (!r1) then
    some (((0 : Int), (0 : Int), (0 : Int), (0 : Int), (0 : Int), (0 : Int), (0 : Int), (0 : Int), (0 : Int), (0 : Int), [], (0 : Int), (0 : Int), (0 : Int), (0 : Int), [], (0 : Int), (0 : Int), (0 : Int)), (1 : Int))
  else
    Option.bind (f124 k ([(1 : Int), (2 : Int), (3 : Int), (4 : Int), (5 : Int), (6 : Int)], x.2.1)) fun r2 =>
    bif (!r2) then
      bif (!r2) then
        some (((0 : Int), (0 : Int), (0 : Int), (0 : Int), (0 : Int), (0 : Int), (0 : Int), (0 : Int), (0 : Int), (0 : Int), [], (0 : Int), (0 : Int), (0 : Int), (0 : Int), [], (0 : Int), (0 : Int), (0 : Int)), (9 : Int))
      else
        Option.bind (f125 k x) fun r3 =>
        Option.bind (f162 k (r3, (7 : Int))) fun r4 =>
        some (r4.1, (0 : Int))
    else
      Option.bind (f125 k x) fun r5 =>
      Option.bind (f162 k (r5, (7 : Int))) fun r6 =>
      some (r6.1, (0 : Int))
noncomputable def f73_7 (k : Nat) (x : Int × Int × Int × Int × Int × Int × Int × Int × Int × Int × List (Int) × Int × Int × Int × Int × List (Int) × Int × Int × Int) : Option ((Int × Int × Int × Int × Int × Int × Int × Int × Int × Int × List (Int) × Int × Int × Int × Int × List (Int) × Int × Int × Int) × Int) :=
  Option.bind (f120 k x) fun r1 =>
  bif (!r1) then
    some (((0 : Int), (0 : Int), (0 : Int), (0 : Int), (0 : Int), (0 : Int), (0 : Int), (0 : Int), (0 : Int), (0 : Int), [], (0 : Int), (0 : Int), (0 : Int), (0 : Int), [], (0 : Int), (0 : Int), (0 : Int)), (1 : Int))
  else
    Option.bind (f124 k ([(1 : Int), (2 : Int), (3 : Int), (4 : Int)], x.2.1)) fun r2 =>
    bif (!r2) then
      bif (!r2) then
        some (((0 : Int), (0 : Int), (0 : Int), (0 : Int), (0 : Int), (0 : Int), (0 : Int), (0 : Int), (0 : Int), (0 : Int), [], (0 : Int), (0 : Int), (0 : Int), (0 : Int), [], (0 : Int), (0 : Int), (0 : Int)), (9 : Int))
      else
        Option.bind (f125 k x) fun r3 =>
        Option.bind (f157 k r3) fun r4 =>
        some (r4, (0 : Int))
    else
      Option.bind (f125 k x) fun r5 =>
      Option.bind (f157 k r5) fun r6 =>
      some (r6, (0 : Int))
noncomputable def f73_0 (k : Nat) (x : (Int × Int × Int × Int × Int × Int × Int × Int × Int × Int × List (Int) × Int × Int × Int × Int × List (Int) × Int × Int × Int) × Int) : Option ((Int × Int × Int × Int × Int × Int × Int × Int × Int × Int × List (Int) × Int × Int × Int × Int × List (Int) × Int × Int × Int) × Int) :=
  Option.bind (f120 k x.1) fun r1 =>
  bif (!r1) then
    some (((0 : Int), (0 : Int), (0 : Int), (0 : Int), (0 : Int), (0 : Int), (0 : Int), (0 : Int), (0 : Int), (0 : Int), [], (0 : Int), (0 : Int), (0 : Int), (0 : Int), [], (0 : Int), (0 : Int), (0 : Int)), (1 : Int))
  else
    some (((0 : Int), (0 : Int), (0 : Int), (0 : Int), (0 : Int), (0 : Int), (0 : Int), (0 : Int), (0 : Int), (0 : Int), [], (0 : Int), (0 : Int), (0 : Int), (0 : Int), [], (0 : Int), (0 : Int), (0 : Int)), (1 : Int))
noncomputable def f73 (k : Nat) (x : (Int × Int × Int × Int × Int × Int × Int × Int × Int × Int × List (Int) × Int × Int × Int × Int × List (Int) × Int × Int × Int) × Int) : Option ((Int × Int × Int × Int × Int × Int × Int × Int × Int × Int × List (Int) × Int × Int × Int × Int × List (Int) × Int × Int × Int) × Int) :=
  bif x.2 == (1 : Int) then f73_1 k x.1 else bif x.2 == (2 : Int) then f73_2 k x.1 else bif x.2 == (3 : Int) then f73_3 k x.1 else bif x.2 == (4 : Int) then f73_4 k x.1 else bif x.2 == (5 : Int) then f73_5 k x.1 else bif x.2 == (6 : Int) then f73_6 k x.1 else bif x.2 == (7 : Int) then f73_7 k x.1 else f73_0 k x
/-- soundservice/stream.bad -/
noncomputable def f127 (k : Nat) (x : Int) : Option (Bool) :=
  bif (decide (x < (0 : Int))) then
    some true
  else
    some (decide (x > (65536 : Int)))
/-- soundservice/stream.Take -/
noncomputable def f75 (k : Nat) (x : (Int × Int × Int × Int × Int × Int × Int × Int × Int × Int × List (Int) × Int × Int × Int × Int × List (Int) × Int × Int × Int) × Int) : Option ((Int × List (Int)) × Int × (Int × Int × Int × Int × Int × Int × Int × Int × Int × Int × List (Int) × Int × Int × Int × Int × List (Int) × Int × Int × Int) × Int) :=
  Option.bind (f122 k (x.1, (1 : Int))) fun r1 =>
  bif (!r1) then
    some (((0 : Int), []), (0 : Int), ((0 : Int), (0 : Int), (0 : Int), (0 : Int), (0 : Int), (0 : Int), (0 : Int), (0 : Int), (0 : Int), (0 : Int), [], (0 : Int), (0 : Int), (0 : Int), (0 : Int), [], (0 : Int), (0 : Int), (0 : Int)), (1 : Int))
  else
    Option.bind (f127 k x.2) fun r2 =>
    bif r2 then
      some (((0 : Int), []), (0 : Int), ((0 : Int), (0 : Int), (0 : Int), (0 : Int), (0 : Int), (0 : Int), (0 : Int), (0 : Int), (0 : Int), (0 : Int), [], (0 : Int), (0 : Int), (0 : Int), (0 : Int), [], (0 : Int), (0 : Int), (0 : Int)), (2 : Int))
    else
    bif (x.1.2.1 == (3 : Int)) then
      Option.bind (f77 k x.1) fun r3 =>
      Option.bind (f96 k ((x.1.2.2.2.2.2.1, x.1.2.2.2.2.2.2.1, x.1.2.2.2.2.2.2.2.1, x.1.2.2.2.2.2.2.2.2.1, x.1.2.2.2.2.2.2.2.2.2.1), r3)) fun r4 =>
      Option.bind (f34 k ((x.1.2.2.2.2.1, x.1.2.2.2.2.2.1, x.1.2.2.2.2.2.2.1, x.1.2.2.2.2.2.2.2.1, x.1.2.2.2.2.2.2.2.2.1, x.1.2.2.2.2.2.2.2.2.2.1, x.1.2.2.2.2.2.2.2.2.2.2.1), (if x.2 < r4.1 then x.2 else r4.1))) fun r5 =>
      bif (r5.2.2 != (0 : Int)) then
        some (((0 : Int), []), (0 : Int), ((0 : Int), (0 : Int), (0 : Int), (0 : Int), (0 : Int), (0 : Int), (0 : Int), (0 : Int), (0 : Int), (0 : Int), [], (0 : Int), (0 : Int), (0 : Int), (0 : Int), [], (0 : Int), (0 : Int), (0 : Int)), r5.2.2)
      else
      bif (decide (0 ≤ (padCount r5.1.1 x.2 (List.length r5.1.2))) && decide ((List.length r5.1.2 + ((padCount r5.1.1 x.2 (List.length r5.1.2))).toNat) * 4 ≤ maxBytes)) then
        some ((r5.1.1, (r5.1.2 ++ List.replicate ((padCount r5.1.1 x.2 (List.length r5.1.2))).toNat (0 : Int))), (IntKind.wrap .i64 (x.2 - (if x.2 < r4.1 then x.2 else r4.1))), (x.1.1, x.1.2.1, x.1.2.2.1, x.1.2.2.2.1, r5.2.1.1, r5.2.1.2.1, r5.2.1.2.2.1, r5.2.1.2.2.2.1, r5.2.1.2.2.2.2.1, r5.2.1.2.2.2.2.2.1, r5.2.1.2.2.2.2.2.2, x.1.2.2.2.2.2.2.2.2.2.2.2.1, x.1.2.2.2.2.2.2.2.2.2.2.2.2.1, x.1.2.2.2.2.2.2.2.2.2.2.2.2.2.1, x.1.2.2.2.2.2.2.2.2.2.2.2.2.2.2.1, x.1.2.2.2.2.2.2.2.2.2.2.2.2.2.2.2.1, x.1.2.2.2.2.2.2.2.2.2.2.2.2.2.2.2.2.1, (IntKind.wrap .i64 (x.1.2.2.2.2.2.2.2.2.2.2.2.2.2.2.2.2.2.1 + x.2)), (IntKind.wrap .i64 (x.1.2.2.2.2.2.2.2.2.2.2.2.2.2.2.2.2.2.2 + (IntKind.wrap .i64 (x.2 - (if x.2 < r4.1 then x.2 else r4.1)))))), (0 : Int))
      else
        none
    else
    bif (x.1.2.1 == (5 : Int)) then
      Option.bind (f36 k ((x.1.2.2.2.2.1, x.1.2.2.2.2.2.1, x.1.2.2.2.2.2.2.1, x.1.2.2.2.2.2.2.2.1, x.1.2.2.2.2.2.2.2.2.1, x.1.2.2.2.2.2.2.2.2.2.1, x.1.2.2.2.2.2.2.2.2.2.2.1), x.2)) fun r6 =>
      bif ((((r6.2.1.2.2.2.2.2.2).length : Int)) == (0 : Int)) then
        bif (r6.2.2 != (0 : Int)) then
          some (((0 : Int), []), (0 : Int), ((0 : Int), (0 : Int), (0 : Int), (0 : Int), (0 : Int), (0 : Int), (0 : Int), (0 : Int), (0 : Int), (0 : Int), [], (0 : Int), (0 : Int), (0 : Int), (0 : Int), [], (0 : Int), (0 : Int), (0 : Int)), r6.2.2)
        else
        bif (decide (0 ≤ (padCount r6.1.1 x.2 (List.length r6.1.2))) && decide ((List.length r6.1.2 + ((padCount r6.1.1 x.2 (List.length r6.1.2))).toNat) * 4 ≤ maxBytes)) then
          some ((r6.1.1, (r6.1.2 ++ List.replicate ((padCount r6.1.1 x.2 (List.length r6.1.2))).toNat (0 : Int))), (0 : Int), (x.1.1, (6 : Int), x.1.2.2.1, x.1.2.2.2.1, r6.2.1.1, r6.2.1.2.1, r6.2.1.2.2.1, r6.2.1.2.2.2.1, r6.2.1.2.2.2.2.1, r6.2.1.2.2.2.2.2.1, r6.2.1.2.2.2.2.2.2, x.1.2.2.2.2.2.2.2.2.2.2.2.1, x.1.2.2.2.2.2.2.2.2.2.2.2.2.1, x.1.2.2.2.2.2.2.2.2.2.2.2.2.2.1, x.1.2.2.2.2.2.2.2.2.2.2.2.2.2.2.1, x.1.2.2.2.2.2.2.2.2.2.2.2.2.2.2.2.1, x.1.2.2.2.2.2.2.2.2.2.2.2.2.2.2.2.2.1, (IntKind.wrap .i64 (x.1.2.2.2.2.2.2.2.2.2.2.2.2.2.2.2.2.2.1 + x.2)), (IntKind.wrap .i64 (x.1.2.2.2.2.2.2.2.2.2.2.2.2.2.2.2.2.2.2 + (0 : Int)))), (0 : Int))
        else
          none
      else
      bif (r6.2.2 != (0 : Int)) then
        some (((0 : Int), []), (0 : Int), ((0 : Int), (0 : Int), (0 : Int), (0 : Int), (0 : Int), (0 : Int), (0 : Int), (0 : Int), (0 : Int), (0 : Int), [], (0 : Int), (0 : Int), (0 : Int), (0 : Int), [], (0 : Int), (0 : Int), (0 : Int)), r6.2.2)
      else
      bif (decide (0 ≤ (padCount r6.1.1 x.2 (List.length r6.1.2))) && decide ((List.length r6.1.2 + ((padCount r6.1.1 x.2 (List.length r6.1.2))).toNat) * 4 ≤ maxBytes)) then
        some ((r6.1.1, (r6.1.2 ++ List.replicate ((padCount r6.1.1 x.2 (List.length r6.1.2))).toNat (0 : Int))), (0 : Int), (x.1.1, x.1.2.1, x.1.2.2.1, x.1.2.2.2.1, r6.2.1.1, r6.2.1.2.1, r6.2.1.2.2.1, r6.2.1.2.2.2.1, r6.2.1.2.2.2.2.1, r6.2.1.2.2.2.2.2.1, r6.2.1.2.2.2.2.2.2, x.1.2.2.2.2.2.2.2.2.2.2.2.1, x.1.2.2.2.2.2.2.2.2.2.2.2.2.1, x.1.2.2.2.2.2.2.2.2.2.2.2.2.2.1, x.1.2.2.2.2.2.2.2.2.2.2.2.2.2.2.1, x.1.2.2.2.2.2.2.2.2.2.2.2.2.2.2.2.1, x.1.2.2.2.2.2.2.2.2.2.2.2.2.2.2.2.2.1, (IntKind.wrap .i64 (x.1.2.2.2.2.2.2.2.2.2.2.2.2.2.2.2.2.2.1 + x.2)), (IntKind.wrap .i64 (x.1.2.2.2.2.2.2.2.2.2.2.2.2.2.2.2.2.2.2 + (0 : Int)))), (0 : Int))
      else
        none
    else
      Option.bind (f108 k (x.1.2.2.2.2.1, x.2)) fun r7 =>
      Option.bind (f125 k x.1) fun r8 =>
      some (r7.1, (0 : Int), r8, (0 : Int))
/-- soundservice/stream.Owes -/
noncomputable def f119 (k : Nat) (x : (Int × Int × Int × Int × Int × Int × Int × Int × Int × Int × List (Int) × Int × Int × Int × Int × List (Int) × Int × Int × Int) × Int) : Option (Int × Int) :=
  Option.bind (f122 k (x.1, (1 : Int))) fun r1 =>
  bif (!r1) then
    some ((0 : Int), (1 : Int))
  else
    Option.bind (f127 k x.2) fun r2 =>
    bif r2 then
      some ((0 : Int), (2 : Int))
    else
      Option.bind (f91 k ((x.1.2.2.2.2.2.1, x.1.2.2.2.2.2.2.1, x.1.2.2.2.2.2.2.2.1, x.1.2.2.2.2.2.2.2.2.1, x.1.2.2.2.2.2.2.2.2.2.1), x.2)) fun r3 =>
      Option.bind (f77 k x.1) fun r4 =>
      some ((if (IntKind.wrap .i64 (r3.1 - r4)) > (0 : Int) then (IntKind.wrap .i64 (r3.1 - r4)) else (0 : Int)), (0 : Int))
/-- soundservice/soundservicelaw20.sane -/
noncomputable def f70 (k : Nat) (x : Unit) : Option (Bool) :=
  Option.bind (f71 k ((1 : Int), (1 : Int), ((1 : Int), (1 : Int)), (10 : Int), (2 : Int))) fun r1 =>
  Option.bind (f24 k ((1 : Int), (1 : Int), (0 : Int), (5 : Int))) fun r2 =>
  Option.bind (f72 k (r1.1, r2)) fun r3 =>
  Option.bind (f119 k (r3.1, (4 : Int))) fun r4 =>
  Option.bind (f119 k (r3.1, (5 : Int))) fun r5 =>
  Option.bind (f73 k (r3.1, (1 : Int))) fun r6 =>
  Option.bind (f75 k (r6.1, (4 : Int))) fun r7 =>
  bif (r1.2 == (0 : Int)) then
    bif (r3.2 == (0 : Int)) then
      bif (r4.2 == (0 : Int)) then
        bif (r5.2 == (0 : Int)) then
          bif (r6.2 == (0 : Int)) then
            bif (r7.2.2.2 == (0 : Int)) then
              bif (r4.1 == (0 : Int)) then
                bif (r5.1 == (1 : Int)) then
                  bif (r3.1.2.1 == (2 : Int)) then
                    bif (r6.1.2.1 == (3 : Int)) then
                      bif (r7.2.1 == (0 : Int)) then
                        bif ((((r7.1.2).length : Int)) == (4 : Int)) then
                          bif (r7.2.2.1.2.2.2.2.2.2.2.2.2.2.2.2.2.2.2.2.2.1 == (4 : Int)) then
                            Option.bind (f77 k r7.2.2.1) fun r8 =>
                            bif (r8 == (1 : Int)) then
                              Option.bind (f76 k r7.2.2.1) fun r9 =>
                              bif (r9 == (9 : Int)) then
                                Option.bind (f120 k r7.2.2.1) fun r10 =>
                                some r10
                              else
                                some false
                            else
                              some false
                          else
                            some false
                        else
                          some false
                      else
                        some false
                    else
                      some false
                  else
                    some false
                else
                  some false
              else
                some false
            else
              some false
          else
            some false
        else
          some false
      else
        some false
    else
      some false
  else
    some false
/-- soundservice/soundserviceref17.Same -/
noncomputable def f126 (k : Nat) (x : (Int × Int × Int × Int × List (Int)) × Int × Int × Int × Int × List (Int)) : Option (Bool) :=
  bif (x.1.1 == x.2.1) then
    bif (x.1.2.1 == x.2.2.1) then
      bif (x.1.2.2.1 == x.2.2.2.1) then
        bif (x.1.2.2.2.1 == x.2.2.2.2.1) then
          Option.bind (f84 k (x.1.2.2.2.2, x.2.2.2.2.2)) fun r1 =>
          some r1
        else
          some false
      else
        some false
    else
      some false
  else
    some false
/-- soundservice/soundserviceref20.Same -/
noncomputable def f74 (k : Nat) (x : (Int × Int × Int × Int × Int × Int × Int × Int × Int × Int × List (Int) × Int × Int × Int × Int × List (Int) × Int × Int × Int) × Int × Int × Int × Int × Int × Int × Int × Int × Int × Int × List (Int) × Int × Int × Int × Int × List (Int) × Int × Int × Int) : Option (Bool) :=
  bif (x.1.1 == x.2.1) then
    bif (x.1.2.1 == x.2.2.1) then
      bif (x.1.2.2.1 == x.2.2.2.1) then
        bif (x.1.2.2.2.1 == x.2.2.2.2.1) then
          bif (x.1.2.2.2.2.2.2.2.2.2.2.2.2.2.2.2.2.1 == x.2.2.2.2.2.2.2.2.2.2.2.2.2.2.2.2.2.1) then
            bif (x.1.2.2.2.2.2.2.2.2.2.2.2.2.2.2.2.2.2.1 == x.2.2.2.2.2.2.2.2.2.2.2.2.2.2.2.2.2.2.1) then
              bif (x.1.2.2.2.2.2.2.2.2.2.2.2.2.2.2.2.2.2.2 == x.2.2.2.2.2.2.2.2.2.2.2.2.2.2.2.2.2.2.2) then
                Option.bind (f27 k ((x.1.2.2.2.2.1, x.1.2.2.2.2.2.1, x.1.2.2.2.2.2.2.1, x.1.2.2.2.2.2.2.2.1, x.1.2.2.2.2.2.2.2.2.1, x.1.2.2.2.2.2.2.2.2.2.1, x.1.2.2.2.2.2.2.2.2.2.2.1), x.2.2.2.2.2.1, x.2.2.2.2.2.2.1, x.2.2.2.2.2.2.2.1, x.2.2.2.2.2.2.2.2.1, x.2.2.2.2.2.2.2.2.2.1, x.2.2.2.2.2.2.2.2.2.2.1, x.2.2.2.2.2.2.2.2.2.2.2.1)) fun r1 =>
                bif r1 then
                  Option.bind (f126 k ((x.1.2.2.2.2.2.2.2.2.2.2.2.1, x.1.2.2.2.2.2.2.2.2.2.2.2.2.1, x.1.2.2.2.2.2.2.2.2.2.2.2.2.2.1, x.1.2.2.2.2.2.2.2.2.2.2.2.2.2.2.1, x.1.2.2.2.2.2.2.2.2.2.2.2.2.2.2.2.1), x.2.2.2.2.2.2.2.2.2.2.2.2.1, x.2.2.2.2.2.2.2.2.2.2.2.2.2.1, x.2.2.2.2.2.2.2.2.2.2.2.2.2.2.1, x.2.2.2.2.2.2.2.2.2.2.2.2.2.2.2.1, x.2.2.2.2.2.2.2.2.2.2.2.2.2.2.2.2.1)) fun r2 =>
                  some r2
                else
                  some false
              else
                some false
            else
              some false
          else
            some false
        else
          some false
      else
        some false
    else
      some false
  else
    some false
/-- soundservice/soundservicelaw20.StreamPieces -/
noncomputable def L15_14 (k : Nat) {R : Type} (K0 : Bool → Option R) (K1 : (List (Int) × Int × (Int × Int × Int × Int × Int × Int × Int × Int × Int × Int × List (Int) × Int × Int × Int × Int × List (Int) × Int × Int × Int) × Int × Int × Int × Int × Int × Int × Int × Int × Int × Int × List (Int) × Int × Int × Int × Int × List (Int) × Int × Int × Int) → Option R) (y : List (Int) × Int × (List (Int × List (Int))) × Int × Int × (Int × Int × Int × Int × Int × Int × Int × Int × Int × Int × List (Int) × Int × Int × Int × Int × List (Int) × Int × Int × Int) × Int × Int × Int × Int × Int × Int × Int × Int × Int × Int × List (Int) × Int × Int × Int × Int × List (Int) × Int × Int × Int) (next : (List (Int) × Int × (List (Int × List (Int))) × Int × Int × (Int × Int × Int × Int × Int × Int × Int × Int × Int × Int × List (Int) × Int × Int × Int × Int × List (Int) × Int × Int × Int) × Int × Int × Int × Int × Int × Int × Int × Int × Int × Int × List (Int) × Int × Int × Int × Int × List (Int) × Int × Int × Int) → Option R) : Option R :=
  bif (decide (y.2.2.2.2.1 < y.2.2.2.1)) then
    bif (decide (0 ≤ y.2.2.2.2.1) && decide (y.2.2.2.2.1 < ((y.2.2.1).length : Int))) then
      Option.bind (f72 k (y.2.2.2.2.2.1, ((y.2.2.1).getD (y.2.2.2.2.1).toNat ((0 : Int), [])))) fun r10 =>
      bif (r10.2 != (0 : Int)) then
        K0 false
      else
        next (y.1, y.2.1, y.2.2.1, y.2.2.2.1, (IntKind.wrap .i64 (y.2.2.2.2.1 + (1 : Int))), r10.1, y.2.2.2.2.2.2)
    else
      none
  else
    K1 (y.1, y.2.1, y.2.2.2.2.2)
noncomputable def L15_27 (k : Nat) {R : Type} (K0 : Bool → Option R) (K1 : ((Int × Int × Int × Int × Int × Int × Int × Int × Int × Int × List (Int) × Int × Int × Int × Int × List (Int) × Int × Int × Int) × (Int × Int × Int × Int × Int × Int × Int × Int × Int × Int × List (Int) × Int × Int × Int × Int × List (Int) × Int × Int × Int) × Int × List (Int)) → Option R) (y : List (Int) × Int × Int × (Int × Int × Int × Int × Int × Int × Int × Int × Int × Int × List (Int) × Int × Int × Int × Int × List (Int) × Int × Int × Int) × (Int × Int × Int × Int × Int × Int × Int × Int × Int × Int × List (Int) × Int × Int × Int × Int × List (Int) × Int × Int × Int) × Int × List (Int)) (next : (List (Int) × Int × Int × (Int × Int × Int × Int × Int × Int × Int × Int × Int × Int × List (Int) × Int × Int × Int × Int × List (Int) × Int × Int × Int) × (Int × Int × Int × Int × Int × Int × Int × Int × Int × Int × List (Int) × Int × Int × Int × Int × List (Int) × Int × Int × Int) × Int × List (Int)) → Option R) : Option R :=
  bif (decide (y.2.2.1 < y.2.1)) then
    bif (decide (0 ≤ y.2.2.1) && decide (y.2.2.1 < ((y.1).length : Int))) then
      Option.bind (f75 k (y.2.2.2.1, (IntKind.wrap .i64 (Int.tmod ((y.1).getD (y.2.2.1).toNat (0 : Int)) (10 : Int))))) fun r18 =>
      bif (r18.2.2.2 != (0 : Int)) then
        K0 false
      else
      bif (decide (r18.2.1 > (0 : Int))) then
        K0 true
      else
        Option.bind (f42 k (y.2.2.2.2.2, r18.1)) fun r19 =>
        next (y.1, y.2.1, (IntKind.wrap .i64 (y.2.2.1 + (1 : Int))), r18.2.2.1, y.2.2.2.2.1, r19)
    else
      none
  else
    K1 y.2.2.2
noncomputable def f15 (k : Nat) (x : List (Int) × List (Int) × List (Int)) : Option (Bool) :=
  Option.bind (f70 k ()) fun r1 =>
  bif (!r1) then
    some false
  else
  bif (decide ((((x.2.1).length : Int)) > (8 : Int))) then
    some true
  else
  bif (decide ((((x.2.2).length : Int)) > (8 : Int))) then
    some true
  else
    Option.bind (f22 k x.1) fun r2 =>
    Option.bind (f48 k r2) fun r3 =>
    Option.bind (f51 k (r3.2, (2 : Int))) fun r4 =>
    Option.bind (f71 k ((1 : Int), (IntKind.wrap .i64 ((1 : Int) + r4.1)), r3.1, (100 : Int), (0 : Int))) fun r5 =>
    Option.bind (f51 k (r4.2, (60 : Int))) fun r6 =>
    Option.bind (f24 k ((5 : Int), (IntKind.wrap .i64 ((1 : Int) + r4.1)), (0 : Int), (IntKind.wrap .i64 ((1 : Int) + r6.1)))) fun r7 =>
    Option.bind (f72 k (r5.1, r7)) fun r8 =>
    bif (r5.2 != (0 : Int)) then
      some false
    else
    bif (r8.2 != (0 : Int)) then
      some false
    else
      Option.bind (f41 k (r7, x.2.1)) fun r9 =>
      loopC k (L15_14 k
        (fun z11 =>
          some z11)
        (fun z12 =>
          Option.bind (f73 k (z12.2.2.1, (1 : Int))) fun r13 =>
          Option.bind (f73 k (z12.2.2.2, (1 : Int))) fun r14 =>
          bif (r13.2 != (0 : Int)) then
            some false
          else
          bif (r14.2 != (0 : Int)) then
            some false
          else
            Option.bind (f74 k (r13.1, r14.1)) fun r15 =>
            bif (!r15) then
              some false
            else
              loopC k (L15_27 k
                (fun z20 =>
                  some z20)
                (fun z21 =>
                  Option.bind (f47 k z21.2.2) fun r22 =>
                  Option.bind (f75 k (z21.2.1, r22)) fun r23 =>
                  bif (r23.2.2.2 == (0 : Int)) then
                    bif (r23.2.1 == (0 : Int)) then
                      Option.bind (f38 k (r23.1, z21.2.2)) fun r24 =>
                      bif r24 then
                        Option.bind (f74 k (z21.1, r23.2.2.1)) fun r25 =>
                        some r25
                      else
                        some false
                    else
                      some false
                  else
                    some false))
                (z12.1, (((z12.1).length : Int)), (0 : Int), r13.1, r14.1, z12.2.1, [])))
        (x.2.2, (IntKind.wrap .i64 ((1 : Int) + r4.1)), r9, (((r9).length : Int)), (0 : Int), r5.1, r8.1)
/-- soundservice/soundservicelaw20.StreamDrains -/
noncomputable def L16_19 (k : Nat) {R : Type} (K0 : Bool → Option R) (K1 : (Int × (Int × Int × Int × Int × Int × Int × Int × Int × Int × Int × List (Int) × Int × Int × Int × Int × List (Int) × Int × Int × Int) × (Int × List (Int)) × Int × List (Int)) → Option R) (y : Int × Int × (Int × Int × Int × Int × Int × Int × Int × Int × Int × Int × List (Int) × Int × Int × Int × Int × List (Int) × Int × Int × Int) × (Int × List (Int)) × Int × List (Int)) (next : (Int × Int × (Int × Int × Int × Int × Int × Int × Int × Int × Int × Int × List (Int) × Int × Int × Int × Int × List (Int) × Int × Int × Int) × (Int × List (Int)) × Int × List (Int)) → Option R) : Option R :=
  bif (decide (y.2.1 < (1100 : Int))) then
    bif (y.2.2.1.2.1 == (5 : Int)) then
      Option.bind (f75 k (y.2.2.1, y.1)) fun r13 =>
      bif (r13.2.2.2 != (0 : Int)) then
        K0 false
      else
      bif (r13.2.1 != (0 : Int)) then
        K0 false
      else
        Option.bind (f42 k (y.2.2.2.2, r13.1)) fun r14 =>
        next (y.1, (IntKind.wrap .i64 (y.2.1 + (1 : Int))), r13.2.2.1, y.2.2.2.1, r14)
    else
      K1 (y.1, y.2.2)
  else
    K1 (y.1, y.2.2)
noncomputable def L16_29 (k : Nat) {R : Type} (K0 : Bool → Option R) (K1 : Unit → Option R) (y : Int × List (Int) × Int × Int × Int × List (Int)) (next : (Int × List (Int) × Int × Int × Int × List (Int)) → Option R) : Option R :=
  bif (decide (y.2.2.2.1 < y.2.2.1)) then
    bif (decide (0 ≤ y.2.2.2.1) && decide (y.2.2.2.1 < ((y.2.1).length : Int))) then
      bif (decide (y.2.2.2.1 < y.1)) then
        bif (decide (0 ≤ y.2.2.2.1) && decide (y.2.2.2.1 < ((y.2.2.2.2.2).length : Int))) then
          bif (((y.2.1).getD (y.2.2.2.1).toNat (0 : Int)) != ((y.2.2.2.2.2).getD (y.2.2.2.1).toNat (0 : Int))) then
            K0 false
          else
          bif (decide (y.2.2.2.1 ≥ y.1)) then
            bif (((y.2.1).getD (y.2.2.2.1).toNat (0 : Int)) != (0 : Int)) then
              K0 false
            else
              next (y.1, y.2.1, y.2.2.1, (IntKind.wrap .i64 (y.2.2.2.1 + (1 : Int))), y.2.2.2.2)
          else
            next (y.1, y.2.1, y.2.2.1, (IntKind.wrap .i64 (y.2.2.2.1 + (1 : Int))), y.2.2.2.2)
        else
          none
      else
      bif (decide (y.2.2.2.1 ≥ y.1)) then
        bif (((y.2.1).getD (y.2.2.2.1).toNat (0 : Int)) != (0 : Int)) then
          K0 false
        else
          next (y.1, y.2.1, y.2.2.1, (IntKind.wrap .i64 (y.2.2.2.1 + (1 : Int))), y.2.2.2.2)
      else
        next (y.1, y.2.1, y.2.2.1, (IntKind.wrap .i64 (y.2.2.2.1 + (1 : Int))), y.2.2.2.2)
    else
      none
  else
    K1 ()
noncomputable def f16 (k : Nat) (x : List (Int) × Int × Int) : Option (Bool) :=
  Option.bind (f70 k ()) fun r1 =>
  bif (!r1) then
    some false
  else
    Option.bind (f22 k x.1) fun r2 =>
    Option.bind (f48 k r2) fun r3 =>
    bif (decide (r3.1.2 > (IntKind.wrap .i64 ((20 : Int) * r3.1.1)))) then
      some true
    else
      Option.bind (f71 k ((1 : Int), (1 : Int), r3.1, (60 : Int), (0 : Int))) fun r4 =>
      Option.bind (f24 k ((6 : Int), (1 : Int), (0 : Int), (IntKind.wrap .i64 ((1 : Int) + (IntKind.wrap .i64 (Int.tmod x.2.1 (50 : Int))))))) fun r5 =>
      Option.bind (f72 k (r4.1, r5)) fun r6 =>
      Option.bind (f73 k (r6.1, (4 : Int))) fun r7 =>
      bif (r4.2 != (0 : Int)) then
        some false
      else
      bif (r6.2 != (0 : Int)) then
        some false
      else
      bif (r7.2 != (0 : Int)) then
        some false
      else
        Option.bind (f33 k ((1 : Int), r3.1)) fun r8 =>
        Option.bind (f26 k (r8.1, r5)) fun r9 =>
        Option.bind (f37 k (r9.1, (65536 : Int))) fun r10 =>
        loopC k (L16_19 k
          (fun z15 =>
            some z15)
          (fun z16 =>
            Option.bind (f47 k z16.2.2.1) fun r17 =>
            bif (z16.2.1.2.1 != (6 : Int)) then
              some false
            else
            bif (z16.2.1.2.2.2.2.2.2.2.2.2.2.2.2.2.2.2.2.2.2 != (0 : Int)) then
              some false
            else
              Option.bind (f47 k z16.2.2.2) fun r18 =>
              bif (decide (r18 < r17)) then
                some false
              else
                Option.bind (f47 k z16.2.2.2) fun r19 =>
                bif (decide (r19 ≥ (IntKind.wrap .i64 (r17 + z16.1)))) then
                  some false
                else
                  loopC k (L16_29 k
                    (fun z20 =>
                      some z20)
                    (fun z21 =>
                      some true))
                    (r17, z16.2.2.2.2, (((z16.2.2.2.2).length : Int)), (0 : Int), z16.2.2.1)))
          ((IntKind.wrap .i64 ((1 : Int) + (IntKind.wrap .i64 (Int.tmod x.2.2 (40 : Int))))), (0 : Int), r7.1, r10.1, (1 : Int), [])
/-- soundservice/soundservicelaw20.StreamCounts -/
noncomputable def L17_11 (k : Nat) {R : Type} (K0 : Bool → Option R) (K1 : (Int × Int × Int × Int × Int × Int × Int × Int × Int × Int × List (Int) × Int × Int × Int × Int × List (Int) × Int × Int × Int) → Option R) (y : List (Int) × Int × Int × Int × Int × Int × Int × Int × Int × Int × Int × Int × Int × List (Int) × Int × Int × Int × Int × List (Int) × Int × Int × Int) (next : (List (Int) × Int × Int × Int × Int × Int × Int × Int × Int × Int × Int × Int × Int × List (Int) × Int × Int × Int × Int × List (Int) × Int × Int × Int) → Option R) : Option R :=
  bif (decide (y.2.2.1 < y.2.1)) then
    bif (decide (0 ≤ y.2.2.1) && decide (y.2.2.1 < ((y.1).length : Int))) then
      bif ((Int.tmod ((y.1).getD (y.2.2.1).toNat (0 : Int)) (2 : Int)) == (0 : Int)) then
        Option.bind (f24 k (y.2.2.1, y.2.2.2.2.2.2.2.1, (0 : Int), (Int.tmod (IntKind.wrap .i64 (Int.fdiv ((y.1).getD (y.2.2.1).toNat (0 : Int)) (2 ^ (min (Int.toNat (1 : Int)) (IntKind.bits .u8))))) (25 : Int)))) fun r7 =>
        Option.bind (f72 k (y.2.2.2, r7)) fun r8 =>
        bif (r8.2 == (10 : Int)) then
          Option.bind (f76 k y.2.2.2) fun r9 =>
          bif (decide ((Int.tmod (IntKind.wrap .i64 (Int.fdiv ((y.1).getD (y.2.2.1).toNat (0 : Int)) (2 ^ (min (Int.toNat (1 : Int)) (IntKind.bits .u8))))) (25 : Int)) ≤ r9)) then
            K0 false
          else
            next (y.1, y.2.1, (IntKind.wrap .i64 (y.2.2.1 + (1 : Int))), y.2.2.2)
        else
        bif (r8.2 != (0 : Int)) then
          K0 false
        else
        bif (r8.1.2.2.2.2.2.2.2.2.2.2.2.2.2.2.2.2.1 != (IntKind.wrap .i64 (y.2.2.2.2.2.2.2.2.2.2.2.2.2.2.2.2.2.2.2.1 + (Int.tmod (IntKind.wrap .i64 (Int.fdiv ((y.1).getD (y.2.2.1).toNat (0 : Int)) (2 ^ (min (Int.toNat (1 : Int)) (IntKind.bits .u8))))) (25 : Int))))) then
          K0 false
        else
          next (y.1, y.2.1, (IntKind.wrap .i64 (y.2.2.1 + (1 : Int))), r8.1)
      else
        Option.bind (f75 k (y.2.2.2, (Int.tmod (IntKind.wrap .i64 (Int.fdiv ((y.1).getD (y.2.2.1).toNat (0 : Int)) (2 ^ (min (Int.toNat (1 : Int)) (IntKind.bits .u8))))) (25 : Int)))) fun r10 =>
        bif (r10.2.2.2 != (0 : Int)) then
          K0 false
        else
          Option.bind (f47 k r10.1) fun r11 =>
          bif (r11 != (Int.tmod (IntKind.wrap .i64 (Int.fdiv ((y.1).getD (y.2.2.1).toNat (0 : Int)) (2 ^ (min (Int.toNat (1 : Int)) (IntKind.bits .u8))))) (25 : Int))) then
            K0 false
          else
          bif (decide (r10.2.1 < (0 : Int))) then
            K0 false
          else
          bif (decide (r10.2.1 > (Int.tmod (IntKind.wrap .i64 (Int.fdiv ((y.1).getD (y.2.2.1).toNat (0 : Int)) (2 ^ (min (Int.toNat (1 : Int)) (IntKind.bits .u8))))) (25 : Int)))) then
            K0 false
          else
          bif (r10.2.2.1.2.2.2.2.2.2.2.2.2.2.2.2.2.2.2.2.2.1 != (IntKind.wrap .i64 (y.2.2.2.2.2.2.2.2.2.2.2.2.2.2.2.2.2.2.2.2.1 + (Int.tmod (IntKind.wrap .i64 (Int.fdiv ((y.1).getD (y.2.2.1).toNat (0 : Int)) (2 ^ (min (Int.toNat (1 : Int)) (IntKind.bits .u8))))) (25 : Int))))) then
            K0 false
          else
          bif (r10.2.2.1.2.2.2.2.2.2.2.2.2.2.2.2.2.2.2.2.2.2 != (IntKind.wrap .i64 (y.2.2.2.2.2.2.2.2.2.2.2.2.2.2.2.2.2.2.2.2.2 + r10.2.1))) then
            K0 false
          else
            next (y.1, y.2.1, (IntKind.wrap .i64 (y.2.2.1 + (1 : Int))), r10.2.2.1)
    else
      none
  else
    K1 y.2.2.2
noncomputable def f17 (k : Nat) (x : List (Int) × List (Int)) : Option (Bool) :=
  Option.bind (f70 k ()) fun r1 =>
  bif (!r1) then
    some false
  else
  bif (decide ((((x.2).length : Int)) > (20 : Int))) then
    some true
  else
    Option.bind (f22 k x.1) fun r2 =>
    Option.bind (f51 k (r2, (2 : Int))) fun r3 =>
    Option.bind (f48 k r3.2) fun r4 =>
    Option.bind (f71 k ((1 : Int), (IntKind.wrap .i64 ((1 : Int) + r3.1)), r4.1, (50 : Int), (0 : Int))) fun r5 =>
    Option.bind (f73 k (r5.1, (1 : Int))) fun r6 =>
    bif (r5.2 != (0 : Int)) then
      some false
    else
    bif (r6.2 != (0 : Int)) then
      some false
    else
      loopC k (L17_11 k
        (fun z12 =>
          some z12)
        (fun z13 =>
          Option.bind (f77 k z13) fun r14 =>
          bif (z13.2.2.2.2.2.2.2.2.2.2.2.2.2.2.2.2.1 == (IntKind.wrap .i64 (r14 + z13.2.2.2.2.2.2.2.2.1))) then
            Option.bind (f76 k z13) fun r15 =>
            Option.bind (f77 k z13) fun r16 =>
            some (r15 == (IntKind.wrap .i64 ((50 : Int) - r16)))
          else
            some false))
        (x.2, (((x.2).length : Int)), (0 : Int), r6.1)
/-- soundservice/ring.Write -/
noncomputable def f130 (k : Nat) (x : (Int × Int × Int × Int × List (Int)) × Int × List (Int)) : Option ((Int × Int × Int × Int × List (Int)) × Int × Int) :=
  Option.bind (f154 k x.1) fun r1 =>
  bif (!r1) then
    some (((0 : Int), (0 : Int), (0 : Int), (0 : Int), []), (0 : Int), (1 : Int))
  else
    Option.bind (f81 k x.2) fun r2 =>
    bif (!r2) then
      some (((0 : Int), (0 : Int), (0 : Int), (0 : Int), []), (0 : Int), (1 : Int))
    else
    bif (x.2.1 != x.1.1) then
      some (((0 : Int), (0 : Int), (0 : Int), (0 : Int), []), (0 : Int), (11 : Int))
    else
    bif (x.2.1 == 0) then
      none
    else
      Option.bind (f129 k x.1) fun r3 =>
      bif (decide ((IntKind.wrap .i64 (x.1.2.2.1 + (if (IntKind.wrap .i64 (x.1.2.1 - r3)) < (IntKind.wrap .i64 (Int.tdiv (((x.2.2).length : Int)) x.2.1)) then (IntKind.wrap .i64 (x.1.2.1 - r3)) else (IntKind.wrap .i64 (Int.tdiv (((x.2.2).length : Int)) x.2.1))))) > (1125899906842624 : Int))) then
        some (((0 : Int), (0 : Int), (0 : Int), (0 : Int), []), (0 : Int), (2 : Int))
      else
      bif (decide (0 ≤ (0 : Int)) && decide ((0 : Int) ≤ (IntKind.wrap .i64 ((if (IntKind.wrap .i64 (x.1.2.1 - r3)) < (IntKind.wrap .i64 (Int.tdiv (((x.2.2).length : Int)) x.2.1)) then (IntKind.wrap .i64 (x.1.2.1 - r3)) else (IntKind.wrap .i64 (Int.tdiv (((x.2.2).length : Int)) x.2.1))) * x.2.1))) && decide ((IntKind.wrap .i64 ((if (IntKind.wrap .i64 (x.1.2.1 - r3)) < (IntKind.wrap .i64 (Int.tdiv (((x.2.2).length : Int)) x.2.1)) then (IntKind.wrap .i64 (x.1.2.1 - r3)) else (IntKind.wrap .i64 (Int.tdiv (((x.2.2).length : Int)) x.2.1))) * x.2.1)) ≤ (IntKind.wrap .i64 ((if (IntKind.wrap .i64 (x.1.2.1 - r3)) < (IntKind.wrap .i64 (Int.tdiv (((x.2.2).length : Int)) x.2.1)) then (IntKind.wrap .i64 (x.1.2.1 - r3)) else (IntKind.wrap .i64 (Int.tdiv (((x.2.2).length : Int)) x.2.1))) * x.2.1))) && decide ((IntKind.wrap .i64 ((if (IntKind.wrap .i64 (x.1.2.1 - r3)) < (IntKind.wrap .i64 (Int.tdiv (((x.2.2).length : Int)) x.2.1)) then (IntKind.wrap .i64 (x.1.2.1 - r3)) else (IntKind.wrap .i64 (Int.tdiv (((x.2.2).length : Int)) x.2.1))) * x.2.1)) ≤ (((x.2.2).length : Int)))) then
        Option.bind (f82 k ([x.1.2.2.2.2, (((x.2.2).take ((IntKind.wrap .i64 ((if (IntKind.wrap .i64 (x.1.2.1 - r3)) < (IntKind.wrap .i64 (Int.tdiv (((x.2.2).length : Int)) x.2.1)) then (IntKind.wrap .i64 (x.1.2.1 - r3)) else (IntKind.wrap .i64 (Int.tdiv (((x.2.2).length : Int)) x.2.1))) * x.2.1))).toNat).drop ((0 : Int)).toNat)])) fun r4 =>
        some ((x.1.1, x.1.2.1, (IntKind.wrap .i64 (x.1.2.2.1 + (if (IntKind.wrap .i64 (x.1.2.1 - r3)) < (IntKind.wrap .i64 (Int.tdiv (((x.2.2).length : Int)) x.2.1)) then (IntKind.wrap .i64 (x.1.2.1 - r3)) else (IntKind.wrap .i64 (Int.tdiv (((x.2.2).length : Int)) x.2.1))))), x.1.2.2.2.1, r4), (IntKind.wrap .i64 ((IntKind.wrap .i64 (Int.tdiv (((x.2.2).length : Int)) x.2.1)) - (if (IntKind.wrap .i64 (x.1.2.1 - r3)) < (IntKind.wrap .i64 (Int.tdiv (((x.2.2).length : Int)) x.2.1)) then (IntKind.wrap .i64 (x.1.2.1 - r3)) else (IntKind.wrap .i64 (Int.tdiv (((x.2.2).length : Int)) x.2.1))))), (0 : Int))
      else
        none
/-- soundservice/stream.Give -/
noncomputable def f78 (k : Nat) (x : (Int × Int × Int × Int × Int × Int × Int × Int × Int × Int × List (Int) × Int × Int × Int × Int × List (Int) × Int × Int × Int) × Int × List (Int)) : Option (Int × (Int × Int × Int × Int × Int × Int × Int × Int × Int × Int × List (Int) × Int × Int × Int × Int × List (Int) × Int × Int × Int) × Int) :=
  Option.bind (f122 k (x.1, (2 : Int))) fun r1 =>
  bif (!r1) then
    some ((0 : Int), ((0 : Int), (0 : Int), (0 : Int), (0 : Int), (0 : Int), (0 : Int), (0 : Int), (0 : Int), (0 : Int), (0 : Int), [], (0 : Int), (0 : Int), (0 : Int), (0 : Int), [], (0 : Int), (0 : Int), (0 : Int)), (1 : Int))
  else
    Option.bind (f81 k x.2) fun r2 =>
    bif (!r2) then
      some ((0 : Int), ((0 : Int), (0 : Int), (0 : Int), (0 : Int), (0 : Int), (0 : Int), (0 : Int), (0 : Int), (0 : Int), (0 : Int), [], (0 : Int), (0 : Int), (0 : Int), (0 : Int), [], (0 : Int), (0 : Int), (0 : Int)), (1 : Int))
    else
    bif (x.2.1 != x.1.2.2.2.2.1) then
      some ((0 : Int), ((0 : Int), (0 : Int), (0 : Int), (0 : Int), (0 : Int), (0 : Int), (0 : Int), (0 : Int), (0 : Int), (0 : Int), [], (0 : Int), (0 : Int), (0 : Int), (0 : Int), [], (0 : Int), (0 : Int), (0 : Int)), (11 : Int))
    else
    bif (x.1.2.1 != (3 : Int)) then
      Option.bind (f125 k x.1) fun r3 =>
      some ((0 : Int), r3, (0 : Int))
    else
      Option.bind (f39 k ((x.1.2.2.2.2.1, x.1.2.2.2.2.2.1, x.1.2.2.2.2.2.2.1, x.1.2.2.2.2.2.2.2.1, x.1.2.2.2.2.2.2.2.2.1, x.1.2.2.2.2.2.2.2.2.2.1, x.1.2.2.2.2.2.2.2.2.2.2.1), x.2)) fun r4 =>
      bif (r4.2.2 != (0 : Int)) then
        some ((0 : Int), ((0 : Int), (0 : Int), (0 : Int), (0 : Int), (0 : Int), (0 : Int), (0 : Int), (0 : Int), (0 : Int), (0 : Int), [], (0 : Int), (0 : Int), (0 : Int), (0 : Int), [], (0 : Int), (0 : Int), (0 : Int)), r4.2.2)
      else
        Option.bind (f130 k ((x.1.2.2.2.2.2.2.2.2.2.2.2.1, x.1.2.2.2.2.2.2.2.2.2.2.2.2.1, x.1.2.2.2.2.2.2.2.2.2.2.2.2.2.1, x.1.2.2.2.2.2.2.2.2.2.2.2.2.2.2.1, x.1.2.2.2.2.2.2.2.2.2.2.2.2.2.2.2.1), r4.1)) fun r5 =>
        bif (r5.2.2 != (0 : Int)) then
          some ((0 : Int), ((0 : Int), (0 : Int), (0 : Int), (0 : Int), (0 : Int), (0 : Int), (0 : Int), (0 : Int), (0 : Int), (0 : Int), [], (0 : Int), (0 : Int), (0 : Int), (0 : Int), [], (0 : Int), (0 : Int), (0 : Int)), r5.2.2)
        else
        bif (x.2.1 == 0) then
          none
        else
          some (r5.2.1, (x.1.1, x.1.2.1, x.1.2.2.1, x.1.2.2.2.1, r4.2.1.1, r4.2.1.2.1, r4.2.1.2.2.1, r4.2.1.2.2.2.1, r4.2.1.2.2.2.2.1, r4.2.1.2.2.2.2.2.1, r4.2.1.2.2.2.2.2.2, r5.1.1, r5.1.2.1, r5.1.2.2.1, r5.1.2.2.2.1, r5.1.2.2.2.2, x.1.2.2.2.2.2.2.2.2.2.2.2.2.2.2.2.2.1, (IntKind.wrap .i64 (x.1.2.2.2.2.2.2.2.2.2.2.2.2.2.2.2.2.2.1 + (IntKind.wrap .i64 (Int.tdiv (((x.2.2).length : Int)) x.2.1)))), (IntKind.wrap .i64 (x.1.2.2.2.2.2.2.2.2.2.2.2.2.2.2.2.2.2.2 + r5.2.1))), (0 : Int))
/-- soundservice/ring.Read -/
noncomputable def f131 (k : Nat) (x : (Int × Int × Int × Int × List (Int)) × Int) : Option ((Int × List (Int)) × Int × (Int × Int × Int × Int × List (Int)) × Int) :=
  Option.bind (f154 k x.1) fun r1 =>
  bif (!r1) then
    some (((0 : Int), []), (0 : Int), ((0 : Int), (0 : Int), (0 : Int), (0 : Int), []), (1 : Int))
  else
  bif (decide (x.2 < (0 : Int))) then
    some (((0 : Int), []), (0 : Int), ((0 : Int), (0 : Int), (0 : Int), (0 : Int), []), (2 : Int))
  else
  bif (decide (x.2 > (65536 : Int))) then
    some (((0 : Int), []), (0 : Int), ((0 : Int), (0 : Int), (0 : Int), (0 : Int), []), (2 : Int))
  else
    Option.bind (f129 k x.1) fun r2 =>
    bif (decide (0 ≤ (IntKind.wrap .i64 (x.2 * x.1.1))) && decide ((IntKind.wrap .i64 (x.2 * x.1.1)) ≤ (IntKind.wrap .i64 (x.2 * x.1.1))) && decide ((IntKind.wrap .i64 (x.2 * x.1.1)) * ((4 : Nat) : Int) ≤ (maxBytes : Int)) && true && true) then
      bif (decide (0 ≤ (0 : Int)) && decide ((0 : Int) ≤ (IntKind.wrap .i64 ((if r2 < x.2 then r2 else x.2) * x.1.1))) && decide ((IntKind.wrap .i64 ((if r2 < x.2 then r2 else x.2) * x.1.1)) ≤ (IntKind.wrap .i64 ((if r2 < x.2 then r2 else x.2) * x.1.1))) && decide ((IntKind.wrap .i64 ((if r2 < x.2 then r2 else x.2) * x.1.1)) ≤ (((x.1.2.2.2.2).length : Int)))) then
        bif (decide (0 ≤ (IntKind.wrap .i64 ((if r2 < x.2 then r2 else x.2) * x.1.1))) && decide ((IntKind.wrap .i64 ((if r2 < x.2 then r2 else x.2) * x.1.1)) ≤ (((x.1.2.2.2.2).length : Int))) && decide ((((x.1.2.2.2.2).length : Int)) ≤ (((x.1.2.2.2.2).length : Int))) && decide ((((x.1.2.2.2.2).length : Int)) ≤ (((x.1.2.2.2.2).length : Int)))) then
          Option.bind (f143 k (((x.1.2.2.2.2).take ((((x.1.2.2.2.2).length : Int))).toNat).drop ((IntKind.wrap .i64 ((if r2 < x.2 then r2 else x.2) * x.1.1))).toNat)) fun r3 =>
          some ((x.1.1, (List.take ((((IntKind.wrap .i64 (x.2 * x.1.1))).toNat)) ((((x.1.2.2.2.2).take ((IntKind.wrap .i64 ((if r2 < x.2 then r2 else x.2) * x.1.1))).toNat).drop ((0 : Int)).toNat)) ++ List.replicate (((((IntKind.wrap .i64 (x.2 * x.1.1))).toNat)) - List.length ((((x.1.2.2.2.2).take ((IntKind.wrap .i64 ((if r2 < x.2 then r2 else x.2) * x.1.1))).toNat).drop ((0 : Int)).toNat))) (0 : Int))), (IntKind.wrap .i64 (x.2 - (if r2 < x.2 then r2 else x.2))), (x.1.1, x.1.2.1, x.1.2.2.1, (IntKind.wrap .i64 (x.1.2.2.2.1 + (if r2 < x.2 then r2 else x.2))), r3), (0 : Int))
        else
          none
      else
        none
    else
      none
/-- soundservice/stream.Read -/
noncomputable def f79 (k : Nat) (x : (Int × Int × Int × Int × Int × Int × Int × Int × Int × Int × List (Int) × Int × Int × Int × Int × List (Int) × Int × Int × Int) × Int) : Option ((Int × List (Int)) × (Int × Int × Int × Int × Int × Int × Int × Int × Int × Int × List (Int) × Int × Int × Int × Int × List (Int) × Int × Int × Int) × Int) :=
  Option.bind (f122 k (x.1, (2 : Int))) fun r1 =>
  bif (!r1) then
    some (((0 : Int), []), ((0 : Int), (0 : Int), (0 : Int), (0 : Int), (0 : Int), (0 : Int), (0 : Int), (0 : Int), (0 : Int), (0 : Int), [], (0 : Int), (0 : Int), (0 : Int), (0 : Int), [], (0 : Int), (0 : Int), (0 : Int)), (1 : Int))
  else
    Option.bind (f127 k x.2) fun r2 =>
    bif r2 then
      some (((0 : Int), []), ((0 : Int), (0 : Int), (0 : Int), (0 : Int), (0 : Int), (0 : Int), (0 : Int), (0 : Int), (0 : Int), (0 : Int), [], (0 : Int), (0 : Int), (0 : Int), (0 : Int), [], (0 : Int), (0 : Int), (0 : Int)), (2 : Int))
    else
    bif (x.1.2.1 == (7 : Int)) then
      some (((0 : Int), []), ((0 : Int), (0 : Int), (0 : Int), (0 : Int), (0 : Int), (0 : Int), (0 : Int), (0 : Int), (0 : Int), (0 : Int), [], (0 : Int), (0 : Int), (0 : Int), (0 : Int), [], (0 : Int), (0 : Int), (0 : Int)), (9 : Int))
    else
      Option.bind (f77 k x.1) fun r3 =>
      Option.bind (f131 k ((x.1.2.2.2.2.2.2.2.2.2.2.2.1, x.1.2.2.2.2.2.2.2.2.2.2.2.2.1, x.1.2.2.2.2.2.2.2.2.2.2.2.2.2.1, x.1.2.2.2.2.2.2.2.2.2.2.2.2.2.2.1, x.1.2.2.2.2.2.2.2.2.2.2.2.2.2.2.2.1), (if r3 < x.2 then r3 else x.2))) fun r4 =>
      Option.bind (f125 k x.1) fun r5 =>
      some (r4.1, (r5.1, r5.2.1, r5.2.2.1, r5.2.2.2.1, r5.2.2.2.2.1, r5.2.2.2.2.2.1, r5.2.2.2.2.2.2.1, r5.2.2.2.2.2.2.2.1, r5.2.2.2.2.2.2.2.2.1, r5.2.2.2.2.2.2.2.2.2.1, r5.2.2.2.2.2.2.2.2.2.2.1, r4.2.2.1.1, r4.2.2.1.2.1, r4.2.2.1.2.2.1, r4.2.2.1.2.2.2.1, r4.2.2.1.2.2.2.2, (IntKind.wrap .i64 (r5.2.2.2.2.2.2.2.2.2.2.2.2.2.2.2.2.1 + (if r3 < x.2 then r3 else x.2))), r5.2.2.2.2.2.2.2.2.2.2.2.2.2.2.2.2.2), (0 : Int))
/-- soundservice/soundservicelaw20.StreamGives -/
noncomputable def L18_16 (k : Nat) {R : Type} (K0 : Bool → Option R) (K1 : (List (Int) × (Int × Int × Int × Int × Int × Int × Int × Int × Int × Int × List (Int) × Int × Int × Int × Int × List (Int) × Int × Int × Int) × Int × Int × Int × Int × Int × Int × Int × Int × Int × Int × List (Int) × Int × Int × Int × Int × List (Int) × Int × Int × Int) → Option R) (y : List (Int) × (List (Int × List (Int))) × Int × Int × (Int × Int × Int × Int × Int × Int × Int × Int × Int × Int × List (Int) × Int × Int × Int × Int × List (Int) × Int × Int × Int) × Int × Int × Int × Int × Int × Int × Int × Int × Int × Int × List (Int) × Int × Int × Int × Int × List (Int) × Int × Int × Int) (next : (List (Int) × (List (Int × List (Int))) × Int × Int × (Int × Int × Int × Int × Int × Int × Int × Int × Int × Int × List (Int) × Int × Int × Int × Int × List (Int) × Int × Int × Int) × Int × Int × Int × Int × Int × Int × Int × Int × Int × Int × List (Int) × Int × Int × Int × Int × List (Int) × Int × Int × Int) → Option R) : Option R :=
  bif (decide (y.2.2.2.1 < y.2.2.1)) then
    bif (decide (0 ≤ y.2.2.2.1) && decide (y.2.2.2.1 < ((y.2.1).length : Int))) then
      Option.bind (f78 k (y.2.2.2.2.1, ((y.2.1).getD (y.2.2.2.1).toNat ((0 : Int), [])))) fun r9 =>
      bif (r9.2.2 != (0 : Int)) then
        K0 false
      else
      bif (r9.1 != (0 : Int)) then
        K0 false
      else
        next (y.1, y.2.1, y.2.2.1, (IntKind.wrap .i64 (y.2.2.2.1 + (1 : Int))), r9.2.1, y.2.2.2.2.2)
    else
      none
  else
    K1 (y.1, y.2.2.2.2)
noncomputable def L18_27 (k : Nat) {R : Type} (K0 : Bool → Option R) (K1 : ((Int × Int × Int × Int × Int × Int × Int × Int × Int × Int × List (Int) × Int × Int × Int × Int × List (Int) × Int × Int × Int) × (Int × Int × Int × Int × Int × Int × Int × Int × Int × Int × List (Int) × Int × Int × Int × Int × List (Int) × Int × Int × Int) × Int × List (Int)) → Option R) (y : List (Int) × Int × Int × (Int × Int × Int × Int × Int × Int × Int × Int × Int × Int × List (Int) × Int × Int × Int × Int × List (Int) × Int × Int × Int) × (Int × Int × Int × Int × Int × Int × Int × Int × Int × Int × List (Int) × Int × Int × Int × Int × List (Int) × Int × Int × Int) × Int × List (Int)) (next : (List (Int) × Int × Int × (Int × Int × Int × Int × Int × Int × Int × Int × Int × Int × List (Int) × Int × Int × Int × Int × List (Int) × Int × Int × Int) × (Int × Int × Int × Int × Int × Int × Int × Int × Int × Int × List (Int) × Int × Int × Int × Int × List (Int) × Int × Int × Int) × Int × List (Int)) → Option R) : Option R :=
  bif (decide (y.2.2.1 < y.2.1)) then
    bif (decide (0 ≤ y.2.2.1) && decide (y.2.2.1 < ((y.1).length : Int))) then
      Option.bind (f79 k (y.2.2.2.1, (IntKind.wrap .i64 (Int.tmod ((y.1).getD (y.2.2.1).toNat (0 : Int)) (20 : Int))))) fun r15 =>
      bif (r15.2.2 != (0 : Int)) then
        K0 false
      else
        Option.bind (f42 k (y.2.2.2.2.2, r15.1)) fun r16 =>
        next (y.1, y.2.1, (IntKind.wrap .i64 (y.2.2.1 + (1 : Int))), r15.2.1, y.2.2.2.2.1, r16)
    else
      none
  else
    K1 y.2.2.2
noncomputable def f18 (k : Nat) (x : List (Int) × List (Int) × List (Int) × Int) : Option (Bool) :=
  Option.bind (f70 k ()) fun r1 =>
  bif (!r1) then
    some false
  else
  bif (decide ((((x.2.1).length : Int)) > (8 : Int))) then
    some true
  else
  bif (decide ((((x.2.2.1).length : Int)) > (8 : Int))) then
    some true
  else
    Option.bind (f22 k x.1) fun r2 =>
    Option.bind (f48 k r2) fun r3 =>
    bif (decide (r3.1.2 > (IntKind.wrap .i64 ((20 : Int) * r3.1.1)))) then
      some true
    else
      Option.bind (f71 k ((2 : Int), (2 : Int), r3.1, (1000 : Int), (0 : Int))) fun r4 =>
      Option.bind (f73 k (r4.1, (1 : Int))) fun r5 =>
      Option.bind (f24 k ((3 : Int), (2 : Int), (0 : Int), (IntKind.wrap .i64 (Int.tmod x.2.2.2 (40 : Int))))) fun r6 =>
      Option.bind (f78 k (r5.1, r6)) fun r7 =>
      bif (r4.2 != (0 : Int)) then
        some false
      else
      bif (r5.2 != (0 : Int)) then
        some false
      else
      bif (r7.2.2 != (0 : Int)) then
        some false
      else
      bif (r7.1 != (0 : Int)) then
        some false
      else
        Option.bind (f41 k (r6, x.2.1)) fun r8 =>
        loopC k (L18_16 k
          (fun z10 =>
            some z10)
          (fun z11 =>
            Option.bind (f74 k z11.2) fun r12 =>
            bif (!r12) then
              some false
            else
              loopC k (L18_27 k
                (fun z17 =>
                  some z17)
                (fun z18 =>
                  Option.bind (f47 k z18.2.2) fun r19 =>
                  Option.bind (f79 k (z18.2.1, r19)) fun r20 =>
                  bif (r20.2.2 == (0 : Int)) then
                    Option.bind (f74 k (r20.2.1, z18.1)) fun r21 =>
                    bif r21 then
                      Option.bind (f38 k (r20.1, z18.2.2)) fun r22 =>
                      some r22
                    else
                      some false
                  else
                    some false))
                (z11.1, (((z11.1).length : Int)), (0 : Int), z11.2.1, z11.2.2, (2 : Int), [])))
          (x.2.2.1, r8, (((r8).length : Int)), (0 : Int), r5.1, r7.2.1)
end Go.Proofs.Ytbfkfobfhjgphaa.Fn
