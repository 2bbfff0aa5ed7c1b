/- The functions of the given program as Lean functions. Printed by a program of this session. -/
import Derived.Test.YtbfkfobfhjgphaaFnD1
set_option linter.unusedVariables false
set_option maxRecDepth 100000
namespace Go.Proofs.Ytbfkfobfhjgphaa.Fn
open Go Go.Pev Go.Proofs
/-- soundservice/control.Valid -/
noncomputable def f106 (k : Nat) (x : Int × Int × Int × Int) : Option (Bool) :=
  bif (decide (x.1 ≥ (0 : Int))) then
    bif (decide (x.1 ≤ (65536 : Int))) then
      bif (decide (x.2.1 ≥ (0 : Int))) then
        bif (decide (x.2.1 ≤ (65536 : Int))) then
          bif (decide (x.2.2.1 ≥ (1 : Int))) then
            bif (decide (x.2.2.1 ≤ (4096 : Int))) then
              bif (decide (x.2.2.2 ≥ (0 : Int))) then
                some (decide (x.2.2.2 ≤ (4096 : Int)))
              else
                some false
            else
              some false
          else
            some false
        else
          some false
      else
        some false
    else
      some false
  else
    some false
/-- soundservice/bridge.Valid -/
noncomputable def f57 (k : Nat) (x : Int × Int × Int × Int × Int × Int × Int × Int × Int × Int × Int × List (Int) × Int × Int) : Option (Bool) :=
  Option.bind (f28 k (x.2.2.2.2.2.1, x.2.2.2.2.2.2.1, x.2.2.2.2.2.2.2.1, x.2.2.2.2.2.2.2.2.1, x.2.2.2.2.2.2.2.2.2.1, x.2.2.2.2.2.2.2.2.2.2.1, x.2.2.2.2.2.2.2.2.2.2.2.1)) fun r1 =>
  bif r1 then
    Option.bind (f106 k (x.2.1, x.2.2.1, x.2.2.2.1, x.2.2.2.2.1)) fun r2 =>
    bif r2 then
      bif (decide (x.1 ≥ (1 : Int))) then
        bif (decide (x.1 ≤ (65536 : Int))) then
          Option.bind (f30 k (x.2.2.2.2.2.1, x.2.2.2.2.2.2.1, x.2.2.2.2.2.2.2.1, x.2.2.2.2.2.2.2.2.1, x.2.2.2.2.2.2.2.2.2.1, x.2.2.2.2.2.2.2.2.2.2.1, x.2.2.2.2.2.2.2.2.2.2.2.1)) fun r3 =>
          bif (decide (r3 ≤ x.1)) then
            bif (decide (x.2.2.2.2.2.2.2.2.2.2.2.2.1 ≥ (0 : Int))) then
              some (decide (x.2.2.2.2.2.2.2.2.2.2.2.2.2 ≥ (0 : Int)))
            else
              some false
          else
            some false
        else
          some false
      else
        some false
    else
      some false
  else
    some false
/-- soundservice/bridge.Push -/
noncomputable def f52 (k : Nat) (x : (Int × Int × Int × Int × Int × Int × Int × Int × Int × Int × Int × List (Int) × Int × Int) × Int × List (Int)) : Option ((Int × Int × Int × Int × Int × Int × Int × Int × Int × Int × Int × List (Int) × Int × Int) × Int × Int) :=
  Option.bind (f57 k x.1) fun r1 =>
  bif (!r1) then
    some (((0 : Int), (0 : Int), (0 : Int), (0 : Int), (0 : Int), (0 : Int), (0 : Int), (0 : Int), (0 : Int), (0 : Int), (0 : Int), [], (0 : Int), (0 : Int)), (0 : Int), (1 : Int))
  else
    Option.bind (f81 k x.2) fun r2 =>
    bif (!r2) then
      some (((0 : Int), (0 : Int), (0 : Int), (0 : Int), (0 : Int), (0 : Int), (0 : Int), (0 : Int), (0 : Int), (0 : Int), (0 : Int), [], (0 : Int), (0 : Int)), (0 : Int), (1 : Int))
    else
    bif (x.2.1 != x.1.2.2.2.2.2.1) then
      some (((0 : Int), (0 : Int), (0 : Int), (0 : Int), (0 : Int), (0 : Int), (0 : Int), (0 : Int), (0 : Int), (0 : Int), (0 : Int), [], (0 : Int), (0 : Int)), (0 : Int), (11 : Int))
    else
    bif (x.2.1 == 0) then
      none
    else
      Option.bind (f30 k (x.1.2.2.2.2.2.1, x.1.2.2.2.2.2.2.1, x.1.2.2.2.2.2.2.2.1, x.1.2.2.2.2.2.2.2.2.1, x.1.2.2.2.2.2.2.2.2.2.1, x.1.2.2.2.2.2.2.2.2.2.2.1, x.1.2.2.2.2.2.2.2.2.2.2.2.1)) fun r3 =>
      bif (decide (0 ≤ (0 : Int)) && decide ((0 : Int) ≤ (IntKind.wrap .i64 ((if (IntKind.wrap .i64 (x.1.1 - r3)) < (IntKind.wrap .i64 (Int.tdiv (((x.2.2).length : Int)) x.2.1)) then (IntKind.wrap .i64 (x.1.1 - r3)) else (IntKind.wrap .i64 (Int.tdiv (((x.2.2).length : Int)) x.2.1))) * x.2.1))) && decide ((IntKind.wrap .i64 ((if (IntKind.wrap .i64 (x.1.1 - r3)) < (IntKind.wrap .i64 (Int.tdiv (((x.2.2).length : Int)) x.2.1)) then (IntKind.wrap .i64 (x.1.1 - r3)) else (IntKind.wrap .i64 (Int.tdiv (((x.2.2).length : Int)) x.2.1))) * x.2.1)) ≤ (IntKind.wrap .i64 ((if (IntKind.wrap .i64 (x.1.1 - r3)) < (IntKind.wrap .i64 (Int.tdiv (((x.2.2).length : Int)) x.2.1)) then (IntKind.wrap .i64 (x.1.1 - r3)) else (IntKind.wrap .i64 (Int.tdiv (((x.2.2).length : Int)) x.2.1))) * x.2.1))) && decide ((IntKind.wrap .i64 ((if (IntKind.wrap .i64 (x.1.1 - r3)) < (IntKind.wrap .i64 (Int.tdiv (((x.2.2).length : Int)) x.2.1)) then (IntKind.wrap .i64 (x.1.1 - r3)) else (IntKind.wrap .i64 (Int.tdiv (((x.2.2).length : Int)) x.2.1))) * x.2.1)) ≤ (((x.2.2).length : Int)))) then
        Option.bind (f25 k ((x.1.2.2.2.2.2.1, x.1.2.2.2.2.2.2.1, x.1.2.2.2.2.2.2.2.1, x.1.2.2.2.2.2.2.2.2.1, x.1.2.2.2.2.2.2.2.2.2.1, x.1.2.2.2.2.2.2.2.2.2.2.1, x.1.2.2.2.2.2.2.2.2.2.2.2.1), x.2.1, (((x.2.2).take ((IntKind.wrap .i64 ((if (IntKind.wrap .i64 (x.1.1 - r3)) < (IntKind.wrap .i64 (Int.tdiv (((x.2.2).length : Int)) x.2.1)) then (IntKind.wrap .i64 (x.1.1 - r3)) else (IntKind.wrap .i64 (Int.tdiv (((x.2.2).length : Int)) x.2.1))) * x.2.1))).toNat).drop ((0 : Int)).toNat))) fun r4 =>
        some ((x.1.1, x.1.2.1, x.1.2.2.1, x.1.2.2.2.1, x.1.2.2.2.2.1, r4.1.1, r4.1.2.1, r4.1.2.2.1, r4.1.2.2.2.1, r4.1.2.2.2.2.1, r4.1.2.2.2.2.2.1, r4.1.2.2.2.2.2.2, (IntKind.wrap .i64 (x.1.2.2.2.2.2.2.2.2.2.2.2.2.1 + (IntKind.wrap .i64 ((IntKind.wrap .i64 (Int.tdiv (((x.2.2).length : Int)) x.2.1)) - (if (IntKind.wrap .i64 (x.1.1 - r3)) < (IntKind.wrap .i64 (Int.tdiv (((x.2.2).length : Int)) x.2.1)) then (IntKind.wrap .i64 (x.1.1 - r3)) else (IntKind.wrap .i64 (Int.tdiv (((x.2.2).length : Int)) x.2.1))))))), x.1.2.2.2.2.2.2.2.2.2.2.2.2.2), (IntKind.wrap .i64 ((IntKind.wrap .i64 (Int.tdiv (((x.2.2).length : Int)) x.2.1)) - (if (IntKind.wrap .i64 (x.1.1 - r3)) < (IntKind.wrap .i64 (Int.tdiv (((x.2.2).length : Int)) x.2.1)) then (IntKind.wrap .i64 (x.1.1 - r3)) else (IntKind.wrap .i64 (Int.tdiv (((x.2.2).length : Int)) x.2.1))))), (0 : Int))
      else
        none
/-- soundservice/phase.Retune -/
noncomputable def f102 (k : Nat) (x : (Int × Int × Int × Int × Int) × Int) : Option ((Int × Int × Int × Int × Int) × Int) :=
  Option.bind (f85 k x.1) fun r1 =>
  bif (!r1) then
    some (((0 : Int), (0 : Int), (0 : Int), (0 : Int), (0 : Int)), (1 : Int))
  else
    Option.bind (f136 k x.2) fun r2 =>
    bif (!r2) then
      some (((0 : Int), (0 : Int), (0 : Int), (0 : Int), (0 : Int)), (2 : Int))
    else
      some ((x.1.1, x.1.2.1, x.2, x.1.2.2.2), (0 : Int))
/-- soundservice/control.Adjust$1 -/
noncomputable def f149 (k : Nat) (x : Int × Int × Int × Int × Int) : Option (Int × Int × Int × Int × Int) :=
  some ((if (IntKind.wrap .i64 ((if (IntKind.wrap .i64 (x.1 - x.2.2.1)) > (0 : Int) then (IntKind.wrap .i64 (x.1 - x.2.2.1)) else (0 : Int)) * x.2.2.2.1)) < x.2.2.2.2 then (IntKind.wrap .i64 ((if (IntKind.wrap .i64 (x.1 - x.2.2.1)) > (0 : Int) then (IntKind.wrap .i64 (x.1 - x.2.2.1)) else (0 : Int)) * x.2.2.2.1)) else x.2.2.2.2), x.2)
/-- soundservice/control.Adjust -/
noncomputable def f103 (k : Nat) (x : (Int × Int × Int × Int) × Int) : Option (Int) :=
  Option.bind (f106 k x.1) fun r1 =>
  bif (!r1) then
    some (0 : Int)
  else
  bif (decide (x.2 < (0 : Int))) then
    some (0 : Int)
  else
  bif (decide (x.2 > (2147483647 : Int))) then
    some (0 : Int)
  else
  bif (decide (x.2 < x.1.1)) then
    Option.bind (f149 k ((IntKind.wrap .i64 (x.1.1 - x.2)), x.1)) fun r2 =>
    some (IntKind.wrap .i64 (0 - r2.1))
  else
    Option.bind (f149 k ((IntKind.wrap .i64 (x.2 - x.1.1)), x.1)) fun r3 =>
    some r3.1
/-- soundservice/bridge.Pull -/
noncomputable def f55 (k : Nat) (x : (Int × Int × Int × Int × Int × Int × Int × Int × Int × Int × Int × List (Int) × Int × Int) × Int) : Option ((Int × List (Int)) × Int × (Int × Int × Int × Int × Int × Int × Int × Int × Int × Int × Int × List (Int) × Int × Int) × Int) :=
  Option.bind (f57 k x.1) fun r1 =>
  bif (!r1) then
    some (((0 : Int), []), (0 : Int), ((0 : Int), (0 : Int), (0 : Int), (0 : Int), (0 : Int), (0 : Int), (0 : Int), (0 : Int), (0 : Int), (0 : Int), (0 : Int), [], (0 : Int), (0 : Int)), (1 : Int))
  else
  bif (decide (x.2 < (0 : Int))) then
    some (((0 : Int), []), (0 : Int), ((0 : Int), (0 : Int), (0 : Int), (0 : Int), (0 : Int), (0 : Int), (0 : Int), (0 : Int), (0 : Int), (0 : Int), (0 : Int), [], (0 : Int), (0 : Int)), (2 : Int))
  else
  bif (decide (x.2 > (65536 : Int))) then
    some (((0 : Int), []), (0 : Int), ((0 : Int), (0 : Int), (0 : Int), (0 : Int), (0 : Int), (0 : Int), (0 : Int), (0 : Int), (0 : Int), (0 : Int), (0 : Int), [], (0 : Int), (0 : Int)), (2 : Int))
  else
    Option.bind (f30 k (x.1.2.2.2.2.2.1, x.1.2.2.2.2.2.2.1, x.1.2.2.2.2.2.2.2.1, x.1.2.2.2.2.2.2.2.2.1, x.1.2.2.2.2.2.2.2.2.2.1, x.1.2.2.2.2.2.2.2.2.2.2.1, x.1.2.2.2.2.2.2.2.2.2.2.2.1)) fun r2 =>
    Option.bind (f103 k ((x.1.2.1, x.1.2.2.1, x.1.2.2.2.1, x.1.2.2.2.2.1), r2)) fun r3 =>
    Option.bind (f102 k ((x.1.2.2.2.2.2.2.1, x.1.2.2.2.2.2.2.2.1, x.1.2.2.2.2.2.2.2.2.1, x.1.2.2.2.2.2.2.2.2.2.1, x.1.2.2.2.2.2.2.2.2.2.2.1), r3)) fun r4 =>
    Option.bind (f96 k (r4.1, r2)) fun r5 =>
    Option.bind (f34 k ((x.1.2.2.2.2.2.1, r4.1.1, r4.1.2.1, r4.1.2.2.1, r4.1.2.2.2.1, r4.1.2.2.2.2, x.1.2.2.2.2.2.2.2.2.2.2.2.1), (if x.2 < r5.1 then x.2 else r5.1))) fun r6 =>
    bif (r6.2.2 != (0 : Int)) then
      some (((0 : Int), []), (0 : Int), ((0 : Int), (0 : Int), (0 : Int), (0 : Int), (0 : Int), (0 : Int), (0 : Int), (0 : Int), (0 : Int), (0 : Int), (0 : Int), [], (0 : Int), (0 : Int)), r6.2.2)
    else
    bif (decide (0 ≤ (IntKind.wrap .i64 ((IntKind.wrap .i64 (x.2 - (if x.2 < r5.1 then x.2 else r5.1))) * r6.1.1))) && decide ((IntKind.wrap .i64 ((IntKind.wrap .i64 (x.2 - (if x.2 < r5.1 then x.2 else r5.1))) * r6.1.1)) ≤ 9223372036854775807)) then
      bif (decide (((r6.1.2).length + ((List.replicate ((IntKind.wrap .i64 ((IntKind.wrap .i64 (x.2 - (if x.2 < r5.1 then x.2 else r5.1))) * r6.1.1))).toNat (0 : Int))).length) * 4 ≤ maxBytes) && decide ((r6.1.2).length + ((List.replicate ((IntKind.wrap .i64 ((IntKind.wrap .i64 (x.2 - (if x.2 < r5.1 then x.2 else r5.1))) * r6.1.1))).toNat (0 : Int))).length ≤ 9223372036854775807)) then
        some ((r6.1.1, (r6.1.2 ++ (List.replicate ((IntKind.wrap .i64 ((IntKind.wrap .i64 (x.2 - (if x.2 < r5.1 then x.2 else r5.1))) * r6.1.1))).toNat (0 : Int)))), (IntKind.wrap .i64 (x.2 - (if x.2 < r5.1 then x.2 else r5.1))), (x.1.1, x.1.2.1, x.1.2.2.1, x.1.2.2.2.1, x.1.2.2.2.2.1, r6.2.1.1, r6.2.1.2.1, r6.2.1.2.2.1, r6.2.1.2.2.2.1, r6.2.1.2.2.2.2.1, r6.2.1.2.2.2.2.2.1, r6.2.1.2.2.2.2.2.2, x.1.2.2.2.2.2.2.2.2.2.2.2.2.1, (IntKind.wrap .i64 (x.1.2.2.2.2.2.2.2.2.2.2.2.2.2 + (IntKind.wrap .i64 (x.2 - (if x.2 < r5.1 then x.2 else r5.1)))))), (0 : Int))
      else
        none
    else
      none
/-- soundservice/bridge.Fill -/
noncomputable def f59 (k : Nat) (x : Int × Int × Int × Int × Int × Int × Int × Int × Int × Int × Int × List (Int) × Int × Int) : Option (Int) :=
  Option.bind (f57 k x) fun r1 =>
  bif (!r1) then
    some (0 : Int)
  else
    Option.bind (f30 k (x.2.2.2.2.2.1, x.2.2.2.2.2.2.1, x.2.2.2.2.2.2.2.1, x.2.2.2.2.2.2.2.2.1, x.2.2.2.2.2.2.2.2.2.1, x.2.2.2.2.2.2.2.2.2.2.1, x.2.2.2.2.2.2.2.2.2.2.2.1)) fun r2 =>
    some r2
/-- soundservice/sample.Silence -/
noncomputable def f108 (k : Nat) (x : Int × Int) : Option ((Int × List (Int)) × Int) :=
  bif (decide (x.1 < (1 : Int))) then
    some (((0 : Int), []), (2 : Int))
  else
  bif (decide (x.1 > (8 : Int))) then
    some (((0 : Int), []), (2 : Int))
  else
  bif (decide (x.2 < (0 : Int))) then
    some (((0 : Int), []), (2 : Int))
  else
  bif (decide (x.2 > (65536 : Int))) then
    some (((0 : Int), []), (2 : Int))
  else
  bif (decide (0 ≤ (IntKind.wrap .i64 (x.1 * x.2))) && decide ((IntKind.wrap .i64 (x.1 * x.2)) ≤ (IntKind.wrap .i64 (x.1 * x.2))) && decide ((IntKind.wrap .i64 (x.1 * x.2)) * ((4 : Nat) : Int) ≤ (maxBytes : Int)) && true && true) then
    some ((x.1, (List.replicate ((IntKind.wrap .i64 (x.1 * x.2))).toNat (0 : Int))), (0 : Int))
  else
    none
/-- soundservice/bridge.New -/
noncomputable def f61 (k : Nat) (x : Int × (Int × Int) × (Int × Int × Int × Int) × Int × Int) : Option ((Int × Int × Int × Int × Int × Int × Int × Int × Int × Int × Int × List (Int) × Int × Int) × Int) :=
  bif (decide (x.2.2.2.1 < (1 : Int))) then
    some (((0 : Int), (0 : Int), (0 : Int), (0 : Int), (0 : Int), (0 : Int), (0 : Int), (0 : Int), (0 : Int), (0 : Int), (0 : Int), [], (0 : Int), (0 : Int)), (2 : Int))
  else
  bif (decide (x.2.2.2.1 > (65536 : Int))) then
    some (((0 : Int), (0 : Int), (0 : Int), (0 : Int), (0 : Int), (0 : Int), (0 : Int), (0 : Int), (0 : Int), (0 : Int), (0 : Int), [], (0 : Int), (0 : Int)), (2 : Int))
  else
  bif (decide (x.2.2.2.2 < (0 : Int))) then
    some (((0 : Int), (0 : Int), (0 : Int), (0 : Int), (0 : Int), (0 : Int), (0 : Int), (0 : Int), (0 : Int), (0 : Int), (0 : Int), [], (0 : Int), (0 : Int)), (2 : Int))
  else
  bif (decide (x.2.2.2.2 > x.2.2.2.1)) then
    some (((0 : Int), (0 : Int), (0 : Int), (0 : Int), (0 : Int), (0 : Int), (0 : Int), (0 : Int), (0 : Int), (0 : Int), (0 : Int), [], (0 : Int), (0 : Int)), (2 : Int))
  else
    Option.bind (f32 k (x.1, x.2.1)) fun r1 =>
    bif (r1.2 != (0 : Int)) then
      some (((0 : Int), (0 : Int), (0 : Int), (0 : Int), (0 : Int), (0 : Int), (0 : Int), (0 : Int), (0 : Int), (0 : Int), (0 : Int), [], (0 : Int), (0 : Int)), (1 : Int))
    else
      Option.bind (f106 k x.2.2.1) fun r2 =>
      bif (!r2) then
        some (((0 : Int), (0 : Int), (0 : Int), (0 : Int), (0 : Int), (0 : Int), (0 : Int), (0 : Int), (0 : Int), (0 : Int), (0 : Int), [], (0 : Int), (0 : Int)), (1 : Int))
      else
        Option.bind (f108 k (x.1, x.2.2.2.2)) fun r3 =>
        Option.bind (f25 k (r1.1, r3.1)) fun r4 =>
        some ((x.2.2.2.1, x.2.2.1.1, x.2.2.1.2.1, x.2.2.1.2.2.1, x.2.2.1.2.2.2, r4.1.1, r4.1.2.1, r4.1.2.2.1, r4.1.2.2.2.1, r4.1.2.2.2.2.1, r4.1.2.2.2.2.2.1, r4.1.2.2.2.2.2.2, (0 : Int), (0 : Int)), (0 : Int))
/-- soundservice/soundservicelaw19.sane -/
noncomputable def f49 (k : Nat) (x : Unit) : Option (Bool) :=
  Option.bind (f61 k ((1 : Int), ((1 : Int), (1 : Int)), ((0 : Int), (0 : Int), (1 : Int), (0 : Int)), (8 : Int), (0 : Int))) fun r1 =>
  Option.bind (f55 k (r1.1, (3 : Int))) fun r2 =>
  bif (decide (0 ≤ (10 : Int)) && decide ((10 : Int) ≤ (10 : Int)) && decide ((10 : Int) * ((4 : Nat) : Int) ≤ (maxBytes : Int)) && true && true) then
    Option.bind (f52 k (r2.2.2.1, (1 : Int), (List.replicate ((10 : Int)).toNat (0 : Int)))) fun r3 =>
    bif (r1.2 == (0 : Int)) then
      bif (r2.2.2.2 == (0 : Int)) then
        bif (r3.2.2 == (0 : Int)) then
          bif ((((r2.1.2).length : Int)) == (3 : Int)) then
            bif (r2.2.1 == (3 : Int)) then
              bif (r3.2.1 == (2 : Int)) then
                Option.bind (f59 k r3.1) fun r4 =>
                bif (r4 == (8 : Int)) then
                  bif (r3.1.2.2.2.2.2.2.2.2.2.2.2.2.1 == (2 : Int)) then
                    bif (r3.1.2.2.2.2.2.2.2.2.2.2.2.2.2 == (3 : Int)) then
                      Option.bind (f57 k r3.1) fun r5 =>
                      some r5
                    else
                      some false
                  else
                    some false
                else
                  some false
              else
                some false
            else
              some false
          else
            some false
        else
          some false
      else
        some false
    else
      some false
  else
    none
/-- soundservice/soundserviceref18.Valid -/
noncomputable def f107 (k : Nat) (x : Int × Int × Int × Int) : Option (Bool) :=
  bif (decide (x.1 ≥ (0 : Int))) then
    bif (decide (x.1 ≤ (65536 : Int))) then
      bif (decide (x.2.1 ≥ (0 : Int))) then
        bif (decide (x.2.1 ≤ (65536 : Int))) then
          bif (decide (x.2.2.1 ≥ (1 : Int))) then
            bif (decide (x.2.2.1 ≤ (4096 : Int))) then
              bif (decide (x.2.2.2 ≥ (0 : Int))) then
                some (decide (x.2.2.2 ≤ (4096 : Int)))
              else
                some false
            else
              some false
          else
            some false
        else
          some false
      else
        some false
    else
      some false
  else
    some false
/-- soundservice/soundserviceref19.Valid -/
noncomputable def f58 (k : Nat) (x : Int × Int × Int × Int × Int × Int × Int × Int × Int × Int × Int × List (Int) × Int × Int) : Option (Bool) :=
  Option.bind (f29 k (x.2.2.2.2.2.1, x.2.2.2.2.2.2.1, x.2.2.2.2.2.2.2.1, x.2.2.2.2.2.2.2.2.1, x.2.2.2.2.2.2.2.2.2.1, x.2.2.2.2.2.2.2.2.2.2.1, x.2.2.2.2.2.2.2.2.2.2.2.1)) fun r1 =>
  bif r1 then
    Option.bind (f107 k (x.2.1, x.2.2.1, x.2.2.2.1, x.2.2.2.2.1)) fun r2 =>
    bif r2 then
      bif (decide (x.1 ≥ (1 : Int))) then
        bif (decide (x.1 ≤ (65536 : Int))) then
          Option.bind (f31 k (x.2.2.2.2.2.1, x.2.2.2.2.2.2.1, x.2.2.2.2.2.2.2.1, x.2.2.2.2.2.2.2.2.1, x.2.2.2.2.2.2.2.2.2.1, x.2.2.2.2.2.2.2.2.2.2.1, x.2.2.2.2.2.2.2.2.2.2.2.1)) fun r3 =>
          bif (decide (r3 ≤ x.1)) then
            bif (decide (x.2.2.2.2.2.2.2.2.2.2.2.2.1 ≥ (0 : Int))) then
              some (decide (x.2.2.2.2.2.2.2.2.2.2.2.2.2 ≥ (0 : Int)))
            else
              some false
          else
            some false
        else
          some false
      else
        some false
    else
      some false
  else
    some false
/-- soundservice/soundserviceref19.Fill -/
noncomputable def f60 (k : Nat) (x : Int × Int × Int × Int × Int × Int × Int × Int × Int × Int × Int × List (Int) × Int × Int) : Option (Int) :=
  Option.bind (f58 k x) fun r1 =>
  bif (!r1) then
    some (0 : Int)
  else
    Option.bind (f31 k (x.2.2.2.2.2.1, x.2.2.2.2.2.2.1, x.2.2.2.2.2.2.2.1, x.2.2.2.2.2.2.2.2.1, x.2.2.2.2.2.2.2.2.2.1, x.2.2.2.2.2.2.2.2.2.2.1, x.2.2.2.2.2.2.2.2.2.2.2.1)) fun r2 =>
    some r2
/-- soundservice/soundserviceref19.Push -/
noncomputable def f53 (k : Nat) (x : (Int × Int × Int × Int × Int × Int × Int × Int × Int × Int × Int × List (Int) × Int × Int) × Int × List (Int)) : Option ((Int × Int × Int × Int × Int × Int × Int × Int × Int × Int × Int × List (Int) × Int × Int) × Int × Int) :=
  Option.bind (f58 k x.1) fun r1 =>
  bif (!r1) then
    some (((0 : Int), (0 : Int), (0 : Int), (0 : Int), (0 : Int), (0 : Int), (0 : Int), (0 : Int), (0 : Int), (0 : Int), (0 : Int), [], (0 : Int), (0 : Int)), (0 : Int), (1 : Int))
  else
    Option.bind (f83 k x.2) fun r2 =>
    bif (!r2) then
      some (((0 : Int), (0 : Int), (0 : Int), (0 : Int), (0 : Int), (0 : Int), (0 : Int), (0 : Int), (0 : Int), (0 : Int), (0 : Int), [], (0 : Int), (0 : Int)), (0 : Int), (1 : Int))
    else
    bif (x.2.1 != x.1.2.2.2.2.2.1) then
      some (((0 : Int), (0 : Int), (0 : Int), (0 : Int), (0 : Int), (0 : Int), (0 : Int), (0 : Int), (0 : Int), (0 : Int), (0 : Int), [], (0 : Int), (0 : Int)), (0 : Int), (11 : Int))
    else
      Option.bind (f47 k x.2) fun r3 =>
      Option.bind (f60 k x.1) fun r4 =>
      Option.bind (f97 k (x.2, (0 : Int), (if (IntKind.wrap .i64 (x.1.1 - r4)) < r3 then (IntKind.wrap .i64 (x.1.1 - r4)) else r3))) fun r5 =>
      Option.bind (f26 k ((x.1.2.2.2.2.2.1, x.1.2.2.2.2.2.2.1, x.1.2.2.2.2.2.2.2.1, x.1.2.2.2.2.2.2.2.2.1, x.1.2.2.2.2.2.2.2.2.2.1, x.1.2.2.2.2.2.2.2.2.2.2.1, x.1.2.2.2.2.2.2.2.2.2.2.2.1), r5)) fun r6 =>
      some ((x.1.1, x.1.2.1, x.1.2.2.1, x.1.2.2.2.1, x.1.2.2.2.2.1, r6.1.1, r6.1.2.1, r6.1.2.2.1, r6.1.2.2.2.1, r6.1.2.2.2.2.1, r6.1.2.2.2.2.2.1, r6.1.2.2.2.2.2.2, (IntKind.wrap .i64 (x.1.2.2.2.2.2.2.2.2.2.2.2.2.1 + (IntKind.wrap .i64 (r3 - (if (IntKind.wrap .i64 (x.1.1 - r4)) < r3 then (IntKind.wrap .i64 (x.1.1 - r4)) else r3))))), x.1.2.2.2.2.2.2.2.2.2.2.2.2.2), (IntKind.wrap .i64 (r3 - (if (IntKind.wrap .i64 (x.1.1 - r4)) < r3 then (IntKind.wrap .i64 (x.1.1 - r4)) else r3))), (0 : Int))
/-- soundservice/soundserviceref04.Silence -/
noncomputable def f63 (k : Nat) (x : Int × Int) : Option ((Int × List (Int)) × Int) :=
  bif (decide (x.1 < (1 : Int))) then
    some (((0 : Int), []), (2 : Int))
  else
  bif (decide (x.1 > (8 : Int))) then
    some (((0 : Int), []), (2 : Int))
  else
  bif (decide (x.2 < (0 : Int))) then
    some (((0 : Int), []), (2 : Int))
  else
  bif (decide (x.2 > (65536 : Int))) then
    some (((0 : Int), []), (2 : Int))
  else
  bif (decide (0 ≤ (IntKind.wrap .i64 (x.1 * x.2))) && decide ((IntKind.wrap .i64 (x.1 * x.2)) ≤ (IntKind.wrap .i64 (x.1 * x.2))) && decide ((IntKind.wrap .i64 (x.1 * x.2)) * ((4 : Nat) : Int) ≤ (maxBytes : Int)) && true && true) then
    some ((x.1, (List.replicate ((IntKind.wrap .i64 (x.1 * x.2))).toNat (0 : Int))), (0 : Int))
  else
    none
/-- soundservice/soundserviceref14.Retune -/
noncomputable def f104 (k : Nat) (x : (Int × Int × Int × Int × Int) × Int) : Option ((Int × Int × Int × Int × Int) × Int) :=
  Option.bind (f87 k x.1) fun r1 =>
  bif (!r1) then
    some (((0 : Int), (0 : Int), (0 : Int), (0 : Int), (0 : Int)), (1 : Int))
  else
  bif (decide (x.2 < (-4096 : Int))) then
    some (((0 : Int), (0 : Int), (0 : Int), (0 : Int), (0 : Int)), (2 : Int))
  else
  bif (decide (x.2 > (4096 : Int))) then
    some (((0 : Int), (0 : Int), (0 : Int), (0 : Int), (0 : Int)), (2 : Int))
  else
    some ((x.1.1, x.1.2.1, x.2, x.1.2.2.2), (0 : Int))
/-- soundservice/soundserviceref18.Adjust -/
noncomputable def f105 (k : Nat) (x : (Int × Int × Int × Int) × Int) : Option (Int) :=
  Option.bind (f107 k x.1) fun r1 =>
  bif (!r1) then
    some (0 : Int)
  else
  bif (decide (x.2 < (0 : Int))) then
    some (0 : Int)
  else
  bif (decide (x.2 > (2147483647 : Int))) then
    some (0 : Int)
  else
  bif (decide ((IntKind.wrap .i64 (x.2 - x.1.1)) > x.1.2.1)) then
    some (if (IntKind.wrap .i64 ((IntKind.wrap .i64 ((IntKind.wrap .i64 (x.2 - x.1.1)) - x.1.2.1)) * x.1.2.2.1)) < x.1.2.2.2 then (IntKind.wrap .i64 ((IntKind.wrap .i64 ((IntKind.wrap .i64 (x.2 - x.1.1)) - x.1.2.1)) * x.1.2.2.1)) else x.1.2.2.2)
  else
  bif (decide ((IntKind.wrap .i64 (x.2 - x.1.1)) < (IntKind.wrap .i64 (0 - x.1.2.1)))) then
    some (IntKind.wrap .i64 (0 - (if (IntKind.wrap .i64 ((IntKind.wrap .i64 ((IntKind.wrap .i64 (0 - (IntKind.wrap .i64 (x.2 - x.1.1)))) - x.1.2.1)) * x.1.2.2.1)) < x.1.2.2.2 then (IntKind.wrap .i64 ((IntKind.wrap .i64 ((IntKind.wrap .i64 (0 - (IntKind.wrap .i64 (x.2 - x.1.1)))) - x.1.2.1)) * x.1.2.2.1)) else x.1.2.2.2)))
  else
    some (0 : Int)
/-- soundservice/soundserviceref19.Pull -/
noncomputable def f56 (k : Nat) (x : (Int × Int × Int × Int × Int × Int × Int × Int × Int × Int × Int × List (Int) × Int × Int) × Int) : Option ((Int × List (Int)) × Int × (Int × Int × Int × Int × Int × Int × Int × Int × Int × Int × Int × List (Int) × Int × Int) × Int) :=
  Option.bind (f58 k x.1) fun r1 =>
  bif (!r1) then
    some (((0 : Int), []), (0 : Int), ((0 : Int), (0 : Int), (0 : Int), (0 : Int), (0 : Int), (0 : Int), (0 : Int), (0 : Int), (0 : Int), (0 : Int), (0 : Int), [], (0 : Int), (0 : Int)), (1 : Int))
  else
  bif (decide (x.2 < (0 : Int))) then
    some (((0 : Int), []), (0 : Int), ((0 : Int), (0 : Int), (0 : Int), (0 : Int), (0 : Int), (0 : Int), (0 : Int), (0 : Int), (0 : Int), (0 : Int), (0 : Int), [], (0 : Int), (0 : Int)), (2 : Int))
  else
  bif (decide (x.2 > (65536 : Int))) then
    some (((0 : Int), []), (0 : Int), ((0 : Int), (0 : Int), (0 : Int), (0 : Int), (0 : Int), (0 : Int), (0 : Int), (0 : Int), (0 : Int), (0 : Int), (0 : Int), [], (0 : Int), (0 : Int)), (2 : Int))
  else
    Option.bind (f60 k x.1) fun r2 =>
    Option.bind (f105 k ((x.1.2.1, x.1.2.2.1, x.1.2.2.2.1, x.1.2.2.2.2.1), r2)) fun r3 =>
    Option.bind (f104 k ((x.1.2.2.2.2.2.2.1, x.1.2.2.2.2.2.2.2.1, x.1.2.2.2.2.2.2.2.2.1, x.1.2.2.2.2.2.2.2.2.2.1, x.1.2.2.2.2.2.2.2.2.2.2.1), r3)) fun r4 =>
    Option.bind (f31 k (x.1.2.2.2.2.2.1, r4.1.1, r4.1.2.1, r4.1.2.2.1, r4.1.2.2.2.1, r4.1.2.2.2.2, x.1.2.2.2.2.2.2.2.2.2.2.2.1)) fun r5 =>
    Option.bind (f45 k (r4.1, r5)) fun r6 =>
    Option.bind (f35 k ((x.1.2.2.2.2.2.1, r4.1.1, r4.1.2.1, r4.1.2.2.1, r4.1.2.2.2.1, r4.1.2.2.2.2, x.1.2.2.2.2.2.2.2.2.2.2.2.1), (if x.2 < r6.1 then x.2 else r6.1))) fun r7 =>
    bif (r7.2.2 != (0 : Int)) then
      some (((0 : Int), []), (0 : Int), ((0 : Int), (0 : Int), (0 : Int), (0 : Int), (0 : Int), (0 : Int), (0 : Int), (0 : Int), (0 : Int), (0 : Int), (0 : Int), [], (0 : Int), (0 : Int)), r7.2.2)
    else
      Option.bind (f63 k (r7.2.1.1, (IntKind.wrap .i64 (x.2 - (if x.2 < r6.1 then x.2 else r6.1))))) fun r8 =>
      Option.bind (f42 k (r7.1, r8.1)) fun r9 =>
      some (r9, (IntKind.wrap .i64 (x.2 - (if x.2 < r6.1 then x.2 else r6.1))), (x.1.1, x.1.2.1, x.1.2.2.1, x.1.2.2.2.1, x.1.2.2.2.2.1, r7.2.1.1, r7.2.1.2.1, r7.2.1.2.2.1, r7.2.1.2.2.2.1, r7.2.1.2.2.2.2.1, r7.2.1.2.2.2.2.2.1, r7.2.1.2.2.2.2.2.2, x.1.2.2.2.2.2.2.2.2.2.2.2.2.1, (IntKind.wrap .i64 (x.1.2.2.2.2.2.2.2.2.2.2.2.2.2 + (IntKind.wrap .i64 (x.2 - (if x.2 < r6.1 then x.2 else r6.1)))))), (0 : Int))
/-- soundservice/soundserviceref19.New -/
noncomputable def f62 (k : Nat) (x : Int × (Int × Int) × (Int × Int × Int × Int) × Int × Int) : Option ((Int × Int × Int × Int × Int × Int × Int × Int × Int × Int × Int × List (Int) × Int × Int) × Int) :=
  bif (decide (x.2.2.2.1 < (1 : Int))) then
    some (((0 : Int), (0 : Int), (0 : Int), (0 : Int), (0 : Int), (0 : Int), (0 : Int), (0 : Int), (0 : Int), (0 : Int), (0 : Int), [], (0 : Int), (0 : Int)), (2 : Int))
  else
  bif (decide (x.2.2.2.1 > (65536 : Int))) then
    some (((0 : Int), (0 : Int), (0 : Int), (0 : Int), (0 : Int), (0 : Int), (0 : Int), (0 : Int), (0 : Int), (0 : Int), (0 : Int), [], (0 : Int), (0 : Int)), (2 : Int))
  else
  bif (decide (x.2.2.2.2 < (0 : Int))) then
    some (((0 : Int), (0 : Int), (0 : Int), (0 : Int), (0 : Int), (0 : Int), (0 : Int), (0 : Int), (0 : Int), (0 : Int), (0 : Int), [], (0 : Int), (0 : Int)), (2 : Int))
  else
  bif (decide (x.2.2.2.2 > x.2.2.2.1)) then
    some (((0 : Int), (0 : Int), (0 : Int), (0 : Int), (0 : Int), (0 : Int), (0 : Int), (0 : Int), (0 : Int), (0 : Int), (0 : Int), [], (0 : Int), (0 : Int)), (2 : Int))
  else
    Option.bind (f33 k (x.1, x.2.1)) fun r1 =>
    Option.bind (f107 k x.2.2.1) fun r2 =>
    bif (!r2) then
      some (((0 : Int), (0 : Int), (0 : Int), (0 : Int), (0 : Int), (0 : Int), (0 : Int), (0 : Int), (0 : Int), (0 : Int), (0 : Int), [], (0 : Int), (0 : Int)), (1 : Int))
    else
    bif (r1.2 != (0 : Int)) then
      some (((0 : Int), (0 : Int), (0 : Int), (0 : Int), (0 : Int), (0 : Int), (0 : Int), (0 : Int), (0 : Int), (0 : Int), (0 : Int), [], (0 : Int), (0 : Int)), (1 : Int))
    else
    bif (decide (0 ≤ (IntKind.wrap .i64 (x.1 * x.2.2.2.2))) && decide ((IntKind.wrap .i64 (x.1 * x.2.2.2.2)) ≤ (IntKind.wrap .i64 (x.1 * x.2.2.2.2))) && decide ((IntKind.wrap .i64 (x.1 * x.2.2.2.2)) * ((4 : Nat) : Int) ≤ (maxBytes : Int)) && true && true) then
      some ((x.2.2.2.1, x.2.2.1.1, x.2.2.1.2.1, x.2.2.1.2.2.1, x.2.2.1.2.2.2, r1.1.1, r1.1.2.1, r1.1.2.2.1, r1.1.2.2.2.1, r1.1.2.2.2.2.1, r1.1.2.2.2.2.2.1, (List.replicate ((IntKind.wrap .i64 (x.1 * x.2.2.2.2))).toNat (0 : Int)), (0 : Int), (0 : Int)), (0 : Int))
    else
      none
/-- soundservice/soundservicelaw19.made -/
noncomputable def L50_4 (k : Nat) {R : Type} (K0 : ((Int × Int × Int × Int × Int × Int × Int × Int × Int × Int × Int × Int × Int) × (Int × Int × Int × Int × Int × Int × Int × Int × Int × Int × Int × List (Int) × Int × Int) × List (Int)) → Option R) (y : Int × (Int × Int × Int × Int × Int × Int × Int × Int × Int × Int × Int × Int × Int) × (Int × Int × Int × Int × Int × Int × Int × Int × Int × Int × Int × List (Int) × Int × Int) × List (Int)) (next : (Int × (Int × Int × Int × Int × Int × Int × Int × Int × Int × Int × Int × Int × Int) × (Int × Int × Int × Int × Int × Int × Int × Int × Int × Int × Int × List (Int) × Int × Int) × List (Int)) → Option R) : Option R :=
  bif (decide (y.1 > (0 : Int))) then
    Option.bind (f51 k (y.2.2.2, (30 : Int))) fun r10 =>
    Option.bind (f24 k (y.1, y.2.2.1.2.2.2.2.2.1, (0 : Int), r10.1)) fun r11 =>
    Option.bind (f53 k (y.2.2.1, r11)) fun r12 =>
    Option.bind (f51 k (r10.2, (12 : Int))) fun r13 =>
    Option.bind (f56 k (r12.1, r13.1)) fun r14 =>
    bif (r14.2.2.2 == (0 : Int)) then
      next ((IntKind.wrap .i64 (y.1 - (1 : Int))), y.2.1, r14.2.2.1, r13.2)
    else
      next ((IntKind.wrap .i64 (y.1 - (1 : Int))), y.2.1, r12.1, r13.2)
  else
    K0 y.2
noncomputable def f50 (k : Nat) (x : List (Int)) : Option ((Int × Int × Int × Int × Int × Int × Int × Int × Int × Int × Int × List (Int) × Int × Int) × List (Int)) :=
  Option.bind (f51 k (x, (40 : Int))) fun r1 =>
  Option.bind (f51 k (r1.2, (6 : Int))) fun r2 =>
  Option.bind (f51 k (r2.2, (60 : Int))) fun r3 =>
  Option.bind (f51 k (r3.2, (3 : Int))) fun r4 =>
  bif (decide (0 ≤ r4.1) && decide (r4.1 < ((([(0 : Int), (100 : Int), (4096 : Int)])).length : Int))) then
    Option.bind (f51 k (r4.2, (2 : Int))) fun r5 =>
    Option.bind (f48 k r5.2) fun r6 =>
    Option.bind (f51 k (r6.2, (60 : Int))) fun r7 =>
    Option.bind (f62 k ((IntKind.wrap .i64 ((1 : Int) + r5.1)), r6.1, (r1.1, r2.1, (IntKind.wrap .i64 ((1 : Int) + r3.1)), ((([(0 : Int), (100 : Int), (4096 : Int)])).getD (r4.1).toNat (0 : Int))), (IntKind.wrap .i64 ((1 : Int) + r7.1)), (0 : Int))) fun r8 =>
    Option.bind (f51 k (r7.2, (4 : Int))) fun r9 =>
    loopC k (L50_4 k
      (fun z15 =>
        some z15.2))
      (r9.1, ((0 : Int), (0 : Int), (0 : Int), (0 : Int), (0 : Int), (0 : Int), (0 : Int), (0 : Int), (0 : Int), (0 : Int), (0 : Int), (0 : Int), (0 : Int)), r8.1, r9.2)
  else
    none
/-- soundservice/soundserviceref19.Same -/
noncomputable def f54 (k : Nat) (x : (Int × Int × Int × Int × Int × Int × Int × Int × Int × Int × Int × List (Int) × Int × Int) × Int × Int × Int × Int × Int × Int × Int × Int × Int × Int × Int × List (Int) × Int × Int) : Option (Bool) :=
  bif (x.1.1 == x.2.1) then
    bif ((x.1.2.1 == x.2.2.1) && ((x.1.2.2.1 == x.2.2.2.1) && ((x.1.2.2.2.1 == x.2.2.2.2.1) && ((x.1.2.2.2.2.1 == x.2.2.2.2.2.1) && true)))) then
      bif (x.1.2.2.2.2.2.2.2.2.2.2.2.2.1 == x.2.2.2.2.2.2.2.2.2.2.2.2.2.1) then
        bif (x.1.2.2.2.2.2.2.2.2.2.2.2.2.2 == x.2.2.2.2.2.2.2.2.2.2.2.2.2.2) then
          Option.bind (f27 k ((x.1.2.2.2.2.2.1, x.1.2.2.2.2.2.2.1, x.1.2.2.2.2.2.2.2.1, x.1.2.2.2.2.2.2.2.2.1, x.1.2.2.2.2.2.2.2.2.2.1, x.1.2.2.2.2.2.2.2.2.2.2.1, x.1.2.2.2.2.2.2.2.2.2.2.2.1), x.2.2.2.2.2.2.1, x.2.2.2.2.2.2.2.1, x.2.2.2.2.2.2.2.2.1, x.2.2.2.2.2.2.2.2.2.1, x.2.2.2.2.2.2.2.2.2.2.1, x.2.2.2.2.2.2.2.2.2.2.2.1, x.2.2.2.2.2.2.2.2.2.2.2.2.1)) fun r1 =>
          some r1
        else
          some false
      else
        some false
    else
      some false
  else
    some false
/-- soundservice/soundservicelaw19.BridgeMoves -/
noncomputable def L10_10 (k : Nat) {R : Type} (K0 : Bool → Option R) (K1 : (Int × Int × Int × Int × Int × (Int × List (Int)) × (Int × Int) × (Int × Int × Int × Int) × (Int × Int × Int × Int × Int × Int × Int × Int × Int × Int × Int × List (Int) × Int × Int) × List (Int) × List (Int × Int × Int × Int × Int × Int × Int × Int × Int × Int × Int × List (Int) × Int × Int)) → Option R) (y : Int × Int × Int × Int × Int × Int × Int × (Int × List (Int)) × (Int × Int) × (Int × Int × Int × Int) × (Int × Int × Int × Int × Int × Int × Int × Int × Int × Int × Int × List (Int) × Int × Int) × List (Int) × (List (Int × Int × Int × Int × Int × Int × Int × Int × Int × Int × Int × List (Int) × Int × Int)) × List (Int × List (Int))) (next : (Int × Int × Int × Int × Int × Int × Int × (Int × List (Int)) × (Int × Int) × (Int × Int × Int × Int) × (Int × Int × Int × Int × Int × Int × Int × Int × Int × Int × Int × List (Int) × Int × Int) × List (Int) × (List (Int × Int × Int × Int × Int × Int × Int × Int × Int × Int × Int × List (Int) × Int × Int)) × List (Int × List (Int))) → Option R) : Option R :=
  bif (decide (y.2.2.2.2.2.2.1 < y.2.2.2.2.2.1)) then
    bif (decide (0 ≤ y.2.2.2.2.2.2.1) && decide (y.2.2.2.2.2.2.1 < ((y.2.2.2.2.2.2.2.2.2.2.2.2.2).length : Int))) then
      Option.bind (f52 k (y.2.2.2.2.2.2.2.2.2.2.1, ((y.2.2.2.2.2.2.2.2.2.2.2.2.2).getD (y.2.2.2.2.2.2.1).toNat ((0 : Int), [])))) fun r8 =>
      Option.bind (f53 k (y.2.2.2.2.2.2.2.2.2.2.1, ((y.2.2.2.2.2.2.2.2.2.2.2.2.2).getD (y.2.2.2.2.2.2.1).toNat ((0 : Int), [])))) fun r9 =>
      bif (r8.2.1 != r9.2.1) then
        K0 false
      else
      bif (r8.2.2 != r9.2.2) then
        K0 false
      else
        Option.bind (f54 k (r8.1, r9.1)) fun r10 =>
        bif (!r10) then
          K0 false
        else
          next (y.1, y.2.1, y.2.2.1, y.2.2.2.1, y.2.2.2.2.1, y.2.2.2.2.2.1, (IntKind.wrap .i64 (y.2.2.2.2.2.2.1 + (1 : Int))), y.2.2.2.2.2.2.2)
    else
      none
  else
    K1 (y.1, y.2.1, y.2.2.1, y.2.2.2.1, y.2.2.2.2.1, y.2.2.2.2.2.2.2.1, y.2.2.2.2.2.2.2.2.1, y.2.2.2.2.2.2.2.2.2.1, y.2.2.2.2.2.2.2.2.2.2.1, y.2.2.2.2.2.2.2.2.2.2.2.1, y.2.2.2.2.2.2.2.2.2.2.2.2.1)
noncomputable def L10_18 (k : Nat) {R : Type} (K0 : Bool → Option R) (K1 : (Int × Int × Int × Int × Int × (Int × List (Int)) × (Int × Int) × (Int × Int × Int × Int) × (Int × Int × Int × Int × Int × Int × Int × Int × Int × Int × Int × List (Int) × Int × Int) × List (Int) × List (Int × Int × Int × Int × Int × Int × Int × Int × Int × Int × Int × List (Int) × Int × Int)) → Option R) (y : Int × Int × Int × Int × Int × Int × Int × (Int × List (Int)) × (Int × Int) × (Int × Int × Int × Int) × (Int × Int × Int × Int × Int × Int × Int × Int × Int × Int × Int × List (Int) × Int × Int) × List (Int) × (List (Int × Int × Int × Int × Int × Int × Int × Int × Int × Int × Int × List (Int) × Int × Int)) × List (Int)) (next : (Int × Int × Int × Int × Int × Int × Int × (Int × List (Int)) × (Int × Int) × (Int × Int × Int × Int) × (Int × Int × Int × Int × Int × Int × Int × Int × Int × Int × Int × List (Int) × Int × Int) × List (Int) × (List (Int × Int × Int × Int × Int × Int × Int × Int × Int × Int × Int × List (Int) × Int × Int)) × List (Int)) → Option R) : Option R :=
  bif (decide (y.2.2.2.2.2.2.1 < y.2.2.2.2.2.1)) then
    bif (decide (0 ≤ y.2.2.2.2.2.2.1) && decide (y.2.2.2.2.2.2.1 < ((y.2.2.2.2.2.2.2.2.2.2.2.2.2).length : Int))) then
      Option.bind (f55 k (y.2.2.2.2.2.2.2.2.2.2.1, ((y.2.2.2.2.2.2.2.2.2.2.2.2.2).getD (y.2.2.2.2.2.2.1).toNat (0 : Int)))) fun r13 =>
      Option.bind (f56 k (y.2.2.2.2.2.2.2.2.2.2.1, ((y.2.2.2.2.2.2.2.2.2.2.2.2.2).getD (y.2.2.2.2.2.2.1).toNat (0 : Int)))) fun r14 =>
      bif (r13.2.1 != r14.2.1) then
        K0 false
      else
      bif (r13.2.2.2 != r14.2.2.2) then
        K0 false
      else
        Option.bind (f54 k (r13.2.2.1, r14.2.2.1)) fun r15 =>
        bif (!r15) then
          K0 false
        else
          Option.bind (f38 k (r13.1, r14.1)) fun r16 =>
          bif (!r16) then
            K0 false
          else
            next (y.1, y.2.1, y.2.2.1, y.2.2.2.1, y.2.2.2.2.1, y.2.2.2.2.2.1, (IntKind.wrap .i64 (y.2.2.2.2.2.2.1 + (1 : Int))), y.2.2.2.2.2.2.2)
    else
      none
  else
    K1 (y.1, y.2.1, y.2.2.1, y.2.2.2.1, y.2.2.2.2.1, y.2.2.2.2.2.2.2.1, y.2.2.2.2.2.2.2.2.1, y.2.2.2.2.2.2.2.2.2.1, y.2.2.2.2.2.2.2.2.2.2.1, y.2.2.2.2.2.2.2.2.2.2.2.1, y.2.2.2.2.2.2.2.2.2.2.2.2.1)
noncomputable def L10_7 (k : Nat) {R : Type} (K0 : Bool → Option R) (K1 : (Int × Int × (Int × Int) × Int × Int × Int × Int) → Option R) (y : Int × Int × Int × Int × Int × (Int × List (Int)) × (Int × Int) × (Int × Int × Int × Int) × List (Int) × List (Int × Int × Int × Int × Int × Int × Int × Int × Int × Int × Int × List (Int) × Int × Int)) (next : (Int × Int × Int × Int × Int × (Int × List (Int)) × (Int × Int) × (Int × Int × Int × Int) × List (Int) × List (Int × Int × Int × Int × Int × Int × Int × Int × Int × Int × Int × List (Int) × Int × Int)) → Option R) : Option R :=
  bif (decide (y.2.2.2.2.1 < y.2.2.2.1)) then
    bif (decide (0 ≤ y.2.2.2.2.1) && decide (y.2.2.2.2.1 < ((y.2.2.2.2.2.2.2.2.2).length : Int))) then
      Option.bind (f51 k (y.2.2.2.2.2.2.2.2.1, (30 : Int))) fun r6 =>
      Option.bind (f24 k ((1 : Int), (1 : Int), (0 : Int), r6.1)) fun r7 =>
      loopC k (L10_10 k
        (fun z11 =>
          K0 z11)
        (fun z12 =>
          loopC k (L10_18 k
            (fun z17 =>
              K0 z17)
            (fun z18 =>
              Option.bind (f57 k z18.2.2.2.2.2.2.2.2.1) fun r19 =>
              Option.bind (f58 k z18.2.2.2.2.2.2.2.2.1) fun r20 =>
              bif (r19 != r20) then
                K0 false
              else
                Option.bind (f59 k z18.2.2.2.2.2.2.2.2.1) fun r21 =>
                Option.bind (f60 k z18.2.2.2.2.2.2.2.2.1) fun r22 =>
                bif (r21 != r22) then
                  K0 false
                else
                  next (z18.1, z18.2.1, z18.2.2.1, z18.2.2.2.1, (IntKind.wrap .i64 (z18.2.2.2.2.1 + (1 : Int))), z18.2.2.2.2.2.1, z18.2.2.2.2.2.2.1, z18.2.2.2.2.2.2.2.1, z18.2.2.2.2.2.2.2.2.2)))
            (z12.1, z12.2.1, z12.2.2.1, z12.2.2.2.1, z12.2.2.2.2.1, (((([z12.1, (Int.tmod (IntKind.wrap .i64 ((Int.tmod z12.1 (30 : Int)) + (30 : Int))) (30 : Int))])).length : Int)), (0 : Int), z12.2.2.2.2.2.1, z12.2.2.2.2.2.2.1, z12.2.2.2.2.2.2.2.1, z12.2.2.2.2.2.2.2.2.1, z12.2.2.2.2.2.2.2.2.2.1, z12.2.2.2.2.2.2.2.2.2.2, ([z12.1, (Int.tmod (IntKind.wrap .i64 ((Int.tmod z12.1 (30 : Int)) + (30 : Int))) (30 : Int))]))))
        (y.1, y.2.1, y.2.2.1, y.2.2.2.1, y.2.2.2.2.1, (((([y.2.2.2.2.2.1, r7])).length : Int)), (0 : Int), y.2.2.2.2.2.1, y.2.2.2.2.2.2.1, y.2.2.2.2.2.2.2.1, ((y.2.2.2.2.2.2.2.2.2).getD (y.2.2.2.2.1).toNat ((0 : Int), (0 : Int), (0 : Int), (0 : Int), (0 : Int), (0 : Int), (0 : Int), (0 : Int), (0 : Int), (0 : Int), (0 : Int), [], (0 : Int), (0 : Int))), r6.2, y.2.2.2.2.2.2.2.2.2, ([y.2.2.2.2.2.1, r7]))
    else
      none
  else
    K1 (y.2.1, y.2.2.1, y.2.2.2.2.2.2.1, y.2.2.2.2.2.2.2.1)
noncomputable def f10 (k : Nat) (x : (Int × Int × Int × Int × Int × Int × Int × Int × Int × Int × Int × List (Int) × Int × Int) × (Int × List (Int)) × List (Int) × Int × Int × Int × (Int × Int) × Int × Int × Int × Int) : Option (Bool) :=
  Option.bind (f49 k ()) fun r1 =>
  bif (!r1) then
    some false
  else
    Option.bind (f20 k ((x.1.2.2.2.2.2.1, x.1.2.2.2.2.2.2.1, x.1.2.2.2.2.2.2.2.1, x.1.2.2.2.2.2.2.2.2.1, x.1.2.2.2.2.2.2.2.2.2.1, x.1.2.2.2.2.2.2.2.2.2.2.1, x.1.2.2.2.2.2.2.2.2.2.2.2.1), (300 : Int))) fun r2 =>
    bif (!r2) then
      some true
    else
      Option.bind (f21 k (x.2.1, (300 : Int))) fun r3 =>
      bif (!r3) then
        some true
      else
      bif (decide (x.2.2.2.1 > (500 : Int))) then
        bif (decide (x.2.2.2.1 ≤ (65536 : Int))) then
          some true
        else
        bif (decide (x.2.2.2.2.2.1 > (1000 : Int))) then
          bif (decide (x.2.2.2.2.2.1 ≤ (65536 : Int))) then
            some true
          else
            Option.bind (f22 k x.2.2.1) fun r4 =>
            Option.bind (f50 k r4) fun r5 =>
            loopC k (L10_7 k
              (fun z23 =>
                some z23)
              (fun z24 =>
                Option.bind (f61 k ((2 : Int), z24.2.2.1, z24.2.2.2, z24.1, z24.2.1)) fun r25 =>
                Option.bind (f62 k ((2 : Int), z24.2.2.1, z24.2.2.2, z24.1, z24.2.1)) fun r26 =>
                bif (r25.2 == r26.2) then
                  Option.bind (f54 k (r25.1, r26.1)) fun r27 =>
                  some r27
                else
                  some false))
              (x.2.2.2.1, x.2.2.2.2.1, x.2.2.2.2.2.1, (((([x.1, r5.1])).length : Int)), (0 : Int), x.2.1, x.2.2.2.2.2.2.1, x.2.2.2.2.2.2.2, r5.2, ([x.1, r5.1]))
        else
          Option.bind (f22 k x.2.2.1) fun r28 =>
          Option.bind (f50 k r28) fun r29 =>
          loopC k (L10_7 k
            (fun z30 =>
              some z30)
            (fun z31 =>
              Option.bind (f61 k ((2 : Int), z31.2.2.1, z31.2.2.2, z31.1, z31.2.1)) fun r32 =>
              Option.bind (f62 k ((2 : Int), z31.2.2.1, z31.2.2.2, z31.1, z31.2.1)) fun r33 =>
              bif (r32.2 == r33.2) then
                Option.bind (f54 k (r32.1, r33.1)) fun r34 =>
                some r34
              else
                some false))
            (x.2.2.2.1, x.2.2.2.2.1, x.2.2.2.2.2.1, (((([x.1, r29.1])).length : Int)), (0 : Int), x.2.1, x.2.2.2.2.2.2.1, x.2.2.2.2.2.2.2, r29.2, ([x.1, r29.1]))
      else
      bif (decide (x.2.2.2.2.2.1 > (1000 : Int))) then
        bif (decide (x.2.2.2.2.2.1 ≤ (65536 : Int))) then
          some true
        else
          Option.bind (f22 k x.2.2.1) fun r35 =>
          Option.bind (f50 k r35) fun r36 =>
          loopC k (L10_7 k
            (fun z37 =>
              some z37)
            (fun z38 =>
              Option.bind (f61 k ((2 : Int), z38.2.2.1, z38.2.2.2, z38.1, z38.2.1)) fun r39 =>
              Option.bind (f62 k ((2 : Int), z38.2.2.1, z38.2.2.2, z38.1, z38.2.1)) fun r40 =>
              bif (r39.2 == r40.2) then
                Option.bind (f54 k (r39.1, r40.1)) fun r41 =>
                some r41
              else
                some false))
            (x.2.2.2.1, x.2.2.2.2.1, x.2.2.2.2.2.1, (((([x.1, r36.1])).length : Int)), (0 : Int), x.2.1, x.2.2.2.2.2.2.1, x.2.2.2.2.2.2.2, r36.2, ([x.1, r36.1]))
      else
        Option.bind (f22 k x.2.2.1) fun r42 =>
        Option.bind (f50 k r42) fun r43 =>
        loopC k (L10_7 k
          (fun z44 =>
            some z44)
          (fun z45 =>
            Option.bind (f61 k ((2 : Int), z45.2.2.1, z45.2.2.2, z45.1, z45.2.1)) fun r46 =>
            Option.bind (f62 k ((2 : Int), z45.2.2.1, z45.2.2.2, z45.1, z45.2.1)) fun r47 =>
            bif (r46.2 == r47.2) then
              Option.bind (f54 k (r46.1, r47.1)) fun r48 =>
              some r48
            else
              some false))
          (x.2.2.2.1, x.2.2.2.2.1, x.2.2.2.2.2.1, (((([x.1, r43.1])).length : Int)), (0 : Int), x.2.1, x.2.2.2.2.2.2.1, x.2.2.2.2.2.2.2, r43.2, ([x.1, r43.1]))
/-- soundservice/soundservicelaw19.BridgeCounts -/
noncomputable def L11_9 (k : Nat) {R : Type} (K0 : Bool → Option R) (K1 : (List (Int) × Int × Int × Int × Int × Int × Int × Int × Int × Int × Int × Int × Int × Int × Int × Int × Int × List (Int) × Int × Int) → Option R) (y : List (Int) × Int × Int × Int × Int × Int × List (Int) × Int × Int × Int × Int × Int × Int × Int × Int × Int × Int × Int × Int × Int × List (Int) × Int × Int) (next : (List (Int) × Int × Int × Int × Int × Int × List (Int) × Int × Int × Int × Int × Int × Int × Int × Int × Int × Int × Int × Int × Int × List (Int) × Int × Int) → Option R) : Option R :=
  bif (decide (y.2.2.2.2.2.2.2.2.1 < y.2.2.2.2.2.2.2.1)) then
    bif (decide (0 ≤ y.2.2.2.2.2.2.2.2.1) && decide (y.2.2.2.2.2.2.2.2.1 < ((y.2.2.2.2.2.2.1).length : Int))) then
      bif ((Int.tmod ((y.2.2.2.2.2.2.1).getD (y.2.2.2.2.2.2.2.2.1).toNat (0 : Int)) (2 : Int)) == (0 : Int)) then
        Option.bind (f24 k (y.2.2.2.2.2.2.2.2.1, y.2.2.2.2.2.2.2.2.2.2.2.2.2.2.1, (0 : Int), (Int.tmod (IntKind.wrap .i64 (Int.fdiv ((y.2.2.2.2.2.2.1).getD (y.2.2.2.2.2.2.2.2.1).toNat (0 : Int)) (2 ^ (min (Int.toNat (1 : Int)) (IntKind.bits .u8))))) (24 : Int)))) fun r5 =>
        Option.bind (f52 k (y.2.2.2.2.2.2.2.2.2, r5)) fun r6 =>
        bif (r6.2.2 != (0 : Int)) then
          K0 false
        else
        bif (decide (r6.2.1 < (0 : Int))) then
          K0 false
        else
        bif (decide (r6.2.1 > (Int.tmod (IntKind.wrap .i64 (Int.fdiv ((y.2.2.2.2.2.2.1).getD (y.2.2.2.2.2.2.2.2.1).toNat (0 : Int)) (2 ^ (min (Int.toNat (1 : Int)) (IntKind.bits .u8))))) (24 : Int)))) then
          K0 false
        else
          next (y.1, y.2.1, y.2.2.1, (IntKind.wrap .i64 (y.2.2.2.1 + (Int.tmod (IntKind.wrap .i64 (Int.fdiv ((y.2.2.2.2.2.2.1).getD (y.2.2.2.2.2.2.2.2.1).toNat (0 : Int)) (2 ^ (min (Int.toNat (1 : Int)) (IntKind.bits .u8))))) (24 : Int)))), (IntKind.wrap .i64 (y.2.2.2.2.1 + r6.2.1)), y.2.2.2.2.2.1, y.2.2.2.2.2.2.1, y.2.2.2.2.2.2.2.1, (IntKind.wrap .i64 (y.2.2.2.2.2.2.2.2.1 + (1 : Int))), r6.1)
      else
        Option.bind (f55 k (y.2.2.2.2.2.2.2.2.2, (Int.tmod (IntKind.wrap .i64 (Int.fdiv ((y.2.2.2.2.2.2.1).getD (y.2.2.2.2.2.2.2.2.1).toNat (0 : Int)) (2 ^ (min (Int.toNat (1 : Int)) (IntKind.bits .u8))))) (24 : Int)))) fun r7 =>
        bif (r7.2.2.2 != (0 : Int)) then
          K0 false
        else
        bif (decide (r7.2.1 < (0 : Int))) then
          K0 false
        else
        bif (decide (r7.2.1 > (Int.tmod (IntKind.wrap .i64 (Int.fdiv ((y.2.2.2.2.2.2.1).getD (y.2.2.2.2.2.2.2.2.1).toNat (0 : Int)) (2 ^ (min (Int.toNat (1 : Int)) (IntKind.bits .u8))))) (24 : Int)))) then
          K0 false
        else
          Option.bind (f47 k r7.1) fun r8 =>
          bif (r8 != (Int.tmod (IntKind.wrap .i64 (Int.fdiv ((y.2.2.2.2.2.2.1).getD (y.2.2.2.2.2.2.2.2.1).toNat (0 : Int)) (2 ^ (min (Int.toNat (1 : Int)) (IntKind.bits .u8))))) (24 : Int))) then
            K0 false
          else
            next (y.1, y.2.1, y.2.2.1, y.2.2.2.1, y.2.2.2.2.1, (IntKind.wrap .i64 (y.2.2.2.2.2.1 + r7.2.1)), y.2.2.2.2.2.2.1, y.2.2.2.2.2.2.2.1, (IntKind.wrap .i64 (y.2.2.2.2.2.2.2.2.1 + (1 : Int))), r7.2.2.1)
    else
      none
  else
    K1 (y.1, y.2.1, y.2.2.1, y.2.2.2.1, y.2.2.2.2.1, y.2.2.2.2.2.1, y.2.2.2.2.2.2.2.2.2)
noncomputable def f11 (k : Nat) (x : List (Int) × List (Int)) : Option (Bool) :=
  Option.bind (f49 k ()) fun r1 =>
  bif (!r1) then
    some false
  else
  bif (decide ((((x.2).length : Int)) > (20 : Int))) then
    some true
  else
    Option.bind (f22 k x.1) fun r2 =>
    Option.bind (f50 k r2) fun r3 =>
    Option.bind (f59 k r3.1) fun r4 =>
    loopC k (L11_9 k
      (fun z9 =>
        some z9)
      (fun z10 =>
        Option.bind (f22 k z10.1) fun r11 =>
        Option.bind (f50 k r11) fun r12 =>
        bif ((IntKind.wrap .i64 (z10.2.2.2.2.2.2.2.2.2.2.2.2.2.2.2.2.2.2.1 - r12.1.2.2.2.2.2.2.2.2.2.2.2.2.1)) == z10.2.2.2.2.1) then
          bif ((IntKind.wrap .i64 (z10.2.2.2.2.2.2.2.2.2.2.2.2.2.2.2.2.2.2.2 - r12.1.2.2.2.2.2.2.2.2.2.2.2.2.2)) == z10.2.2.2.2.2.1) then
            Option.bind (f59 k z10.2.2.2.2.2.2) fun r13 =>
            some ((IntKind.wrap .i64 ((IntKind.wrap .i64 ((IntKind.wrap .i64 (z10.2.1 + z10.2.2.2.1)) - z10.2.2.2.2.1)) - r13)) == (IntKind.wrap .i64 (z10.2.2.2.2.2.2.2.2.2.2.2.2.2.2.2.1 - z10.2.2.1)))
          else
            some false
        else
          some false))
      (x.1, r4, r3.1.2.2.2.2.2.2.2.2.2.1, (0 : Int), (0 : Int), (0 : Int), x.2, (((x.2).length : Int)), (0 : Int), r3.1)
/-- soundservice/soundservicelaw19.begins -/
noncomputable def f64 (k : Nat) (x : (Int × List (Int)) × Int × List (Int)) : Option (Bool) :=
  Option.bind (f47 k x.1) fun r1 =>
  Option.bind (f83 k x.1) fun r2 =>
  bif r2 then
    Option.bind (f47 k x.2) fun r3 =>
    bif (decide (r1 ≤ r3)) then
      Option.bind (f97 k (x.2, (0 : Int), r1)) fun r4 =>
      Option.bind (f38 k (x.1, r4)) fun r5 =>
      some r5
    else
      some false
  else
    some false
/-- soundservice/soundservicelaw19.BridgeEqual -/
noncomputable def L12_12 (k : Nat) {R : Type} (K0 : Bool → Option R) (K1 : ((Int × List (Int)) × Int × List (Int)) → Option R) (y : Int × Int × Int × Int × (Int × Int × Int × Int × Int × Int × Int × Int × Int × Int × Int × List (Int) × Int × Int) × (Int × List (Int)) × (Int × List (Int)) × List (Int)) (next : (Int × Int × Int × Int × (Int × Int × Int × Int × Int × Int × Int × Int × Int × Int × Int × List (Int) × Int × Int) × (Int × List (Int)) × (Int × List (Int)) × List (Int)) → Option R) : Option R :=
  bif (decide (y.2.2.2.1 < (IntKind.wrap .i64 (Int.tmod y.1 (12 : Int))))) then
    Option.bind (f43 k (y.2.2.2.2.2.2.2, y.2.2.1, y.2.1)) fun r15 =>
    Option.bind (f55 k (y.2.2.2.2.1, y.2.1)) fun r16 =>
    Option.bind (f52 k (r16.2.2.1, r15.1)) fun r17 =>
    bif (r16.2.2.2 != (0 : Int)) then
      K0 false
    else
    bif (r17.2.2 != (0 : Int)) then
      K0 false
    else
    bif (r16.2.1 != (0 : Int)) then
      K0 false
    else
    bif (r17.2.1 != (0 : Int)) then
      K0 false
    else
      Option.bind (f42 k (y.2.2.2.2.2.1, r15.1)) fun r18 =>
      Option.bind (f42 k (y.2.2.2.2.2.2.1, r16.1)) fun r19 =>
      next (y.1, y.2.1, y.2.2.1, (IntKind.wrap .i64 (y.2.2.2.1 + (1 : Int))), r17.1, r18, r19, r15.2)
  else
    K1 (y.2.2.2.2.2.1, y.2.2.2.2.2.2.1)
noncomputable def f12 (k : Nat) (x : List (Int) × Int) : Option (Bool) :=
  Option.bind (f49 k ()) fun r1 =>
  bif (!r1) then
    some false
  else
    Option.bind (f22 k x.1) fun r2 =>
    Option.bind (f51 k (r2, (12 : Int))) fun r3 =>
    Option.bind (f51 k (r3.2, (40 : Int))) fun r4 =>
    Option.bind (f51 k (r4.2, (2 : Int))) fun r5 =>
    Option.bind (f51 k (r5.2, (5 : Int))) fun r6 =>
    Option.bind (f51 k (r6.2, (99 : Int))) fun r7 =>
    Option.bind (f61 k ((IntKind.wrap .i64 ((1 : Int) + r5.1)), ((1 : Int), (1 : Int)), ((IntKind.wrap .i64 ((20 : Int) + r4.1)), r6.1, (IntKind.wrap .i64 ((1 : Int) + r7.1)), (1000 : Int)), (IntKind.wrap .i64 ((IntKind.wrap .i64 ((20 : Int) + r4.1)) + (IntKind.wrap .i64 ((4 : Int) + r3.1)))), (IntKind.wrap .i64 ((20 : Int) + r4.1)))) fun r8 =>
    bif (r8.2 != (0 : Int)) then
      some false
    else
      Option.bind (f63 k ((IntKind.wrap .i64 ((1 : Int) + r5.1)), (IntKind.wrap .i64 ((20 : Int) + r4.1)))) fun r9 =>
      loopC k (L12_12 k
        (fun z20 =>
          some z20)
        (fun z21 =>
          Option.bind (f64 k (z21.2, z21.1)) fun r22 =>
          some r22))
        (x.2, (IntKind.wrap .i64 ((4 : Int) + r3.1)), (IntKind.wrap .i64 ((1 : Int) + r5.1)), (0 : Int), r8.1, r9.1, ((IntKind.wrap .i64 ((1 : Int) + r5.1)), []), r7.2)
/-- soundservice/soundservicelaw19.BridgeParts -/
noncomputable def L13_11 (k : Nat) {R : Type} (K0 : Bool → Option R) (K1 : (Int × Int × Int × Int × Int × (Int × Int × Int × Int × Int × Int × Int × Int × Int × Int × Int × List (Int) × Int × Int) × Int × Int × Int × Int × Int × Int × Int × Int × Int × Int × Int × List (Int) × Int × Int) → Option R) (y : Int × Int × Int × Int × Int × (List (Int × List (Int))) × Int × Int × (Int × Int × Int × Int × Int × Int × Int × Int × Int × Int × Int × List (Int) × Int × Int) × Int × Int × Int × Int × Int × Int × Int × Int × Int × Int × Int × List (Int) × Int × Int) (next : (Int × Int × Int × Int × Int × (List (Int × List (Int))) × Int × Int × (Int × Int × Int × Int × Int × Int × Int × Int × Int × Int × Int × List (Int) × Int × Int) × Int × Int × Int × Int × Int × Int × Int × Int × Int × Int × Int × List (Int) × Int × Int) → Option R) : Option R :=
  bif (decide (y.2.2.2.2.2.2.2.1 < y.2.2.2.2.2.2.1)) then
    bif (decide (0 ≤ y.2.2.2.2.2.2.2.1) && decide (y.2.2.2.2.2.2.2.1 < ((y.2.2.2.2.2.1).length : Int))) then
      Option.bind (f52 k (y.2.2.2.2.2.2.2.2.2, ((y.2.2.2.2.2.1).getD (y.2.2.2.2.2.2.2.1).toNat ((0 : Int), [])))) fun r7 =>
      bif (r7.2.2 != (0 : Int)) then
        K0 false
      else
        next (y.1, y.2.1, y.2.2.1, y.2.2.2.1, (IntKind.wrap .i64 (y.2.2.2.2.1 + r7.2.1)), y.2.2.2.2.2.1, y.2.2.2.2.2.2.1, (IntKind.wrap .i64 (y.2.2.2.2.2.2.2.1 + (1 : Int))), y.2.2.2.2.2.2.2.2.1, r7.1)
    else
      none
  else
    K1 (y.1, y.2.1, y.2.2.1, y.2.2.2.1, y.2.2.2.2.1, y.2.2.2.2.2.2.2.2)
noncomputable def f13 (k : Nat) (x : List (Int) × List (Int) × Int × Int) : Option (Bool) :=
  Option.bind (f49 k ()) fun r1 =>
  bif (!r1) then
    some false
  else
  bif (decide ((((x.2.1).length : Int)) > (8 : Int))) then
    some true
  else
    Option.bind (f22 k x.1) fun r2 =>
    Option.bind (f50 k r2) fun r3 =>
    Option.bind (f24 k ((9 : Int), r3.1.2.2.2.2.2.1, (0 : Int), (IntKind.wrap .i64 (Int.tmod x.2.2.1 (30 : Int))))) fun r4 =>
    Option.bind (f52 k ((r3.1.1, r3.1.2.1, r3.1.2.2.1, r3.1.2.2.2.1, (0 : Int), r3.1.2.2.2.2.2), r4)) fun r5 =>
    Option.bind (f41 k (r4, x.2.1)) fun r6 =>
    loopC k (L13_11 k
      (fun z8 =>
        some z8)
      (fun z9 =>
        Option.bind (f55 k (z9.2.2.2.2.2.1, (IntKind.wrap .i64 ((IntKind.wrap .i64 (Int.tmod z9.1 (20 : Int))) + (IntKind.wrap .i64 (Int.tmod z9.2.1 (20 : Int))))))) fun r10 =>
        Option.bind (f55 k (z9.2.2.2.2.2.2, (IntKind.wrap .i64 (Int.tmod z9.1 (20 : Int))))) fun r11 =>
        Option.bind (f55 k (r11.2.2.1, (IntKind.wrap .i64 (Int.tmod z9.2.1 (20 : Int))))) fun r12 =>
        bif (z9.2.2.2.1 == (0 : Int)) then
          bif (r10.2.2.2 == (0 : Int)) then
            bif (r11.2.2.2 == (0 : Int)) then
              bif (r12.2.2.2 == (0 : Int)) then
                bif (z9.2.2.1 == z9.2.2.2.2.1) then
                  Option.bind (f54 k z9.2.2.2.2.2) fun r13 =>
                  bif r13 then
                    bif (r10.2.1 == (IntKind.wrap .i64 (r11.2.1 + r12.2.1))) then
                      Option.bind (f54 k (r10.2.2.1, r12.2.2.1)) fun r14 =>
                      bif r14 then
                        bif (decide (r11.2.1 > (0 : Int))) then
                          some true
                        else
                          Option.bind (f42 k (r11.1, r12.1)) fun r15 =>
                          Option.bind (f38 k (r10.1, r15)) fun r16 =>
                          some r16
                      else
                        some false
                    else
                      some false
                  else
                    some false
                else
                  some false
              else
                some false
            else
              some false
          else
            some false
        else
          some false))
      (x.2.2.1, x.2.2.2, r5.2.1, r5.2.2, (0 : Int), r6, (((r6).length : Int)), (0 : Int), r5.1, r3.1.1, r3.1.2.1, r3.1.2.2.1, r3.1.2.2.2.1, (0 : Int), r3.1.2.2.2.2.2)
/-- soundservice/soundservicelaw19.floor -/
noncomputable def f109 (k : Nat) (x : Int × Int × Int) : Option (Int) :=
  bif (x.2.2 == 0) then
    none
  else
    some (IntKind.wrap .i64 (Int.tdiv (IntKind.wrap .i64 (x.1 * x.2.1)) x.2.2))
/-- soundservice/soundservicelaw19.run -/
noncomputable def L65_8 (k : Nat) {R : Type} (K0 : ((Int × Int × Int × Int × Int × Int) × (Int × Int × Int × Int × Int × Int) × List (Int) × List (Int × Int)) → Option R) (y : Int × Int × Int × Int × Int × Int × Int × (Int × Int × Int × Int × Int × Int) × (Int × Int × Int × Int × Int × Int) × List (Int) × List (Int × Int)) (next : (Int × Int × Int × Int × Int × Int × Int × (Int × Int × Int × Int × Int × Int) × (Int × Int × Int × Int × Int × Int) × List (Int) × List (Int × Int)) → Option R) : Option R :=
  bif (decide (y.2.2.2.2.2.2.1 < y.1)) then
    Option.bind (f51 k (y.2.2.2.2.2.2.2.2.2.1, (2 : Int))) fun r12 =>
    Option.bind (f51 k (r12.2, (2 : Int))) fun r13 =>
    Option.bind (f109 k ((IntKind.wrap .i64 (y.2.2.2.2.2.2.1 + (1 : Int))), (IntKind.wrap .i64 (y.2.1 * y.2.2.1)), (65536 : Int))) fun r14 =>
    Option.bind (f109 k (y.2.2.2.2.2.2.1, (IntKind.wrap .i64 (y.2.1 * y.2.2.1)), (65536 : Int))) fun r15 =>
    Option.bind (f109 k ((IntKind.wrap .i64 (y.2.2.2.2.2.2.1 + (1 : Int))), (IntKind.wrap .i64 ((IntKind.wrap .i64 (y.2.1 * y.2.2.2.2.2.2.2.2.1.2.1)) * y.2.2.2.1)), (IntKind.wrap .i64 ((65536 : Int) * y.2.2.2.2.2.2.2.2.1.1)))) fun r16 =>
    Option.bind (f109 k (y.2.2.2.2.2.2.1, (IntKind.wrap .i64 ((IntKind.wrap .i64 (y.2.1 * y.2.2.2.2.2.2.2.2.1.2.1)) * y.2.2.2.1)), (IntKind.wrap .i64 ((65536 : Int) * y.2.2.2.2.2.2.2.2.1.1)))) fun r17 =>
    bif (decide (((y.2.2.2.2.2.2.2.2.2.2).length + (([((if (IntKind.wrap .i64 ((IntKind.wrap .i64 ((IntKind.wrap .i64 (r16 - r17)) + r13.1)) - y.2.2.2.2.2.1)) > (0 : Int) then (IntKind.wrap .i64 ((IntKind.wrap .i64 ((IntKind.wrap .i64 (r16 - r17)) + r13.1)) - y.2.2.2.2.2.1)) else (0 : Int)), (if (IntKind.wrap .i64 ((IntKind.wrap .i64 ((IntKind.wrap .i64 (r14 - r15)) + r12.1)) - y.2.2.2.2.1)) > (0 : Int) then (IntKind.wrap .i64 ((IntKind.wrap .i64 ((IntKind.wrap .i64 (r14 - r15)) + r12.1)) - y.2.2.2.2.1)) else (0 : Int)))])).length) * 16 ≤ maxBytes) && decide ((y.2.2.2.2.2.2.2.2.2.2).length + (([((if (IntKind.wrap .i64 ((IntKind.wrap .i64 ((IntKind.wrap .i64 (r16 - r17)) + r13.1)) - y.2.2.2.2.2.1)) > (0 : Int) then (IntKind.wrap .i64 ((IntKind.wrap .i64 ((IntKind.wrap .i64 (r16 - r17)) + r13.1)) - y.2.2.2.2.2.1)) else (0 : Int)), (if (IntKind.wrap .i64 ((IntKind.wrap .i64 ((IntKind.wrap .i64 (r14 - r15)) + r12.1)) - y.2.2.2.2.1)) > (0 : Int) then (IntKind.wrap .i64 ((IntKind.wrap .i64 ((IntKind.wrap .i64 (r14 - r15)) + r12.1)) - y.2.2.2.2.1)) else (0 : Int)))])).length ≤ 9223372036854775807)) then
      next (y.1, y.2.1, y.2.2.1, y.2.2.2.1, r12.1, r13.1, (IntKind.wrap .i64 (y.2.2.2.2.2.2.1 + (1 : Int))), y.2.2.2.2.2.2.2.1, y.2.2.2.2.2.2.2.2.1, r13.2, (y.2.2.2.2.2.2.2.2.2.2 ++ ([((if (IntKind.wrap .i64 ((IntKind.wrap .i64 ((IntKind.wrap .i64 (r16 - r17)) + r13.1)) - y.2.2.2.2.2.1)) > (0 : Int) then (IntKind.wrap .i64 ((IntKind.wrap .i64 ((IntKind.wrap .i64 (r16 - r17)) + r13.1)) - y.2.2.2.2.2.1)) else (0 : Int)), (if (IntKind.wrap .i64 ((IntKind.wrap .i64 ((IntKind.wrap .i64 (r14 - r15)) + r12.1)) - y.2.2.2.2.1)) > (0 : Int) then (IntKind.wrap .i64 ((IntKind.wrap .i64 ((IntKind.wrap .i64 (r14 - r15)) + r12.1)) - y.2.2.2.2.1)) else (0 : Int)))])))
    else
      none
  else
    K0 y.2.2.2.2.2.2.2
noncomputable def f65 (k : Nat) (x : List (Int) × Int) : Option ((Int × Int × Int × Int × Int × Int × List (Int × Int)) × List (Int)) :=
  Option.bind (f51 k (x.1, (5 : Int))) fun r1 =>
  bif (decide (0 ≤ r1.1) && decide (r1.1 < ((([((1 : Int), (1 : Int)), ((147 : Int), (160 : Int)), ((160 : Int), (147 : Int)), ((2 : Int), (1 : Int)), ((1 : Int), (6 : Int))])).length : Int))) then
    Option.bind (f51 k (r1.2, (4 : Int))) fun r2 =>
    Option.bind (f51 k (r2.2, (4 : Int))) fun r3 =>
    bif (decide (0 ≤ r3.1) && decide (r3.1 < ((([(0 : Int), (66 : Int), (400 : Int), (1500 : Int)])).length : Int))) then
      bif (((([((1 : Int), (1 : Int)), ((147 : Int), (160 : Int)), ((160 : Int), (147 : Int)), ((2 : Int), (1 : Int)), ((1 : Int), (6 : Int))])).getD (r1.1).toNat ((0 : Int), (0 : Int))).2 == 0) then
        none
      else
        Option.bind (f51 k (r3.2, (3 : Int))) fun r4 =>
        bif (decide (0 ≤ r4.1) && decide (r4.1 < ((([(0 : Int), (IntKind.wrap .i64 (Int.tdiv ((([(0 : Int), (66 : Int), (400 : Int), (1500 : Int)])).getD (r3.1).toNat (0 : Int)) (2 : Int))), (IntKind.wrap .i64 (Int.tdiv (IntKind.wrap .i64 (0 - ((([(0 : Int), (66 : Int), (400 : Int), (1500 : Int)])).getD (r3.1).toNat (0 : Int)))) (2 : Int)))])).length : Int))) then
          Option.bind (f51 k (r4.2, (3 : Int))) fun r5 =>
          bif (decide (0 ≤ r5.1) && decide (r5.1 < ((([(0 : Int), (IntKind.wrap .i64 (Int.tdiv ((([(0 : Int), (66 : Int), (400 : Int), (1500 : Int)])).getD (r3.1).toNat (0 : Int)) (2 : Int))), (IntKind.wrap .i64 (Int.tdiv (IntKind.wrap .i64 (0 - ((([(0 : Int), (66 : Int), (400 : Int), (1500 : Int)])).getD (r3.1).toNat (0 : Int)))) (2 : Int)))])).length : Int))) then
            loopC k (L65_8 k
              (fun z18 =>
                some ((z18.2.1.1, z18.2.1.2.1, z18.2.1.2.2.1, z18.2.1.2.2.2.1, z18.2.1.2.2.2.2.1, z18.2.1.2.2.2.2.2, z18.2.2.2), z18.2.2.1)))
              (x.2, (IntKind.wrap .i64 ((16 : Int) + (IntKind.wrap .i64 ((8 : Int) * r2.1)))), (IntKind.wrap .i64 ((65536 : Int) + ((([(0 : Int), (IntKind.wrap .i64 (Int.tdiv ((([(0 : Int), (66 : Int), (400 : Int), (1500 : Int)])).getD (r3.1).toNat (0 : Int)) (2 : Int))), (IntKind.wrap .i64 (Int.tdiv (IntKind.wrap .i64 (0 - ((([(0 : Int), (66 : Int), (400 : Int), (1500 : Int)])).getD (r3.1).toNat (0 : Int)))) (2 : Int)))])).getD (r4.1).toNat (0 : Int)))), (IntKind.wrap .i64 ((65536 : Int) + ((([(0 : Int), (IntKind.wrap .i64 (Int.tdiv ((([(0 : Int), (66 : Int), (400 : Int), (1500 : Int)])).getD (r3.1).toNat (0 : Int)) (2 : Int))), (IntKind.wrap .i64 (Int.tdiv (IntKind.wrap .i64 (0 - ((([(0 : Int), (66 : Int), (400 : Int), (1500 : Int)])).getD (r3.1).toNat (0 : Int)))) (2 : Int)))])).getD (r5.1).toNat (0 : Int)))), (0 : Int), (0 : Int), (0 : Int), ((0 : Int), (0 : Int), (0 : Int), (0 : Int), (0 : Int), (0 : Int)), (((([((1 : Int), (1 : Int)), ((147 : Int), (160 : Int)), ((160 : Int), (147 : Int)), ((2 : Int), (1 : Int)), ((1 : Int), (6 : Int))])).getD (r1.1).toNat ((0 : Int), (0 : Int))).1, ((([((1 : Int), (1 : Int)), ((147 : Int), (160 : Int)), ((160 : Int), (147 : Int)), ((2 : Int), (1 : Int)), ((1 : Int), (6 : Int))])).getD (r1.1).toNat ((0 : Int), (0 : Int))).2, (IntKind.wrap .i64 ((16 : Int) + (IntKind.wrap .i64 ((8 : Int) * r2.1)))), (1 : Int), ((([(0 : Int), (66 : Int), (400 : Int), (1500 : Int)])).getD (r3.1).toNat (0 : Int)), (IntKind.wrap .i64 ((3 : Int) + (IntKind.wrap .i64 (Int.tdiv (IntKind.wrap .i64 ((2 : Int) * ((([((1 : Int), (1 : Int)), ((147 : Int), (160 : Int)), ((160 : Int), (147 : Int)), ((2 : Int), (1 : Int)), ((1 : Int), (6 : Int))])).getD (r1.1).toNat ((0 : Int), (0 : Int))).1)) ((([((1 : Int), (1 : Int)), ((147 : Int), (160 : Int)), ((160 : Int), (147 : Int)), ((2 : Int), (1 : Int)), ((1 : Int), (6 : Int))])).getD (r1.1).toNat ((0 : Int), (0 : Int))).2))))), r5.2, [])
          else
            none
        else
          none
    else
      none
  else
    none
/-- soundservice/soundserviceref18.up -/
noncomputable def f111 (k : Nat) (x : Int × Int) : Option (Int) :=
  bif (x.2 == 0) then
    none
  else
    some (IntKind.wrap .i64 (Int.tdiv (IntKind.wrap .i64 ((IntKind.wrap .i64 (x.1 + x.2)) - (1 : Int))) x.2))
/-- soundservice/soundserviceref18.sway -/
noncomputable def f118 (k : Nat) (x : (Int × Int) × Int) : Option (Int) :=
  Option.bind (f111 k ((IntKind.wrap .i64 ((IntKind.wrap .i64 ((2 : Int) * x.1.1)) * x.2)), (IntKind.wrap .i64 (x.1.2 * (65536 : Int))))) fun r1 =>
  some r1
/-- soundservice/soundserviceref18.Start -/
noncomputable def f68 (k : Nat) (x : (Int × Int) × Int × Int) : Option (Int) :=
  Option.bind (f118 k (x.1, x.2.1)) fun r1 =>
  some (IntKind.wrap .i64 ((IntKind.wrap .i64 (r1 + x.2.2)) + (1 : Int)))
/-- soundservice/soundserviceref18.Bound -/
noncomputable def f69 (k : Nat) (x : (Int × Int × Int × Int) × (Int × Int) × Int × Int × Int) : Option (Int × Int) :=
  Option.bind (f107 k x.1) fun r1 =>
  bif (!r1) then
    some ((0 : Int), (1 : Int))
  else
    Option.bind (f110 k (x.2.1, x.2.2.1, x.2.2.2.1)) fun r2 =>
    bif (!r2) then
      some ((0 : Int), (1 : Int))
    else
    bif (decide (x.2.2.2.2 < (0 : Int))) then
      some ((0 : Int), (1 : Int))
    else
    bif (decide (x.2.2.2.2 > (65536 : Int))) then
      some ((0 : Int), (1 : Int))
    else
    bif (decide ((IntKind.wrap .i64 (x.1.2.2.2 * (IntKind.wrap .i64 ((65536 : Int) - x.2.2.1)))) < (IntKind.wrap .i64 ((65536 : Int) * x.2.2.1)))) then
      some ((0 : Int), (11 : Int))
    else
      Option.bind (f111 k (x.1.2.2.2, x.1.2.2.1)) fun r3 =>
      Option.bind (f118 k (x.2.1, (IntKind.wrap .i64 (x.2.2.1 + x.1.2.2.2)))) fun r4 =>
      some ((IntKind.wrap .i64 ((IntKind.wrap .i64 ((IntKind.wrap .i64 ((if (IntKind.wrap .i64 (x.1.2.1 + r3)) > x.2.2.2.2 then (IntKind.wrap .i64 (x.1.2.1 + r3)) else x.2.2.2.2) + r4)) + (IntKind.wrap .i64 ((2 : Int) * x.2.2.2.1)))) + (2 : Int))), (0 : Int))
/-- soundservice/soundserviceref18.Demand -/
noncomputable def f112 (k : Nat) (x : (Int × Int × Int × Int) × (Int × Int) × Int × Int) : Option (Int × Int) :=
  Option.bind (f69 k (x.1, x.2.1, x.2.2.1, x.2.2.2, (0 : Int))) fun r1 =>
  bif (r1.2 != (0 : Int)) then
    some ((0 : Int), r1.2)
  else
    Option.bind (f111 k x.2.1) fun r2 =>
    Option.bind (f118 k (x.2.1, (IntKind.wrap .i64 (x.2.2.1 + x.1.2.2.2)))) fun r3 =>
    some ((IntKind.wrap .i64 ((IntKind.wrap .i64 ((IntKind.wrap .i64 (r2 + r3)) + (IntKind.wrap .i64 ((2 : Int) * x.2.2.2)))) + (3 : Int))), (0 : Int))
/-- soundservice/soundserviceref18.Plan -/
noncomputable def f66 (k : Nat) (x : (Int × Int) × Int × Int × Int × Int) : Option ((Int × Int × Int × Int) × Int × Int) :=
  Option.bind (f110 k (x.1, x.2.1, x.2.2.1)) fun r1 =>
  bif (!r1) then
    some (((0 : Int), (0 : Int), (0 : Int), (0 : Int)), (0 : Int), (1 : Int))
  else
  bif (decide (x.2.2.2.1 < (0 : Int))) then
    some (((0 : Int), (0 : Int), (0 : Int), (0 : Int)), (0 : Int), (1 : Int))
  else
  bif (decide (x.2.2.2.1 > (65536 : Int))) then
    some (((0 : Int), (0 : Int), (0 : Int), (0 : Int)), (0 : Int), (1 : Int))
  else
  bif (decide (x.2.2.2.2 < (1 : Int))) then
    some (((0 : Int), (0 : Int), (0 : Int), (0 : Int)), (0 : Int), (1 : Int))
  else
  bif (decide (x.2.2.2.2 > (4096 : Int))) then
    some (((0 : Int), (0 : Int), (0 : Int), (0 : Int)), (0 : Int), (1 : Int))
  else
    Option.bind (f111 k ((IntKind.wrap .i64 ((65536 : Int) * x.2.1)), (IntKind.wrap .i64 ((65536 : Int) - x.2.1)))) fun r2 =>
    bif (decide (r2 > (4096 : Int))) then
      some (((0 : Int), (0 : Int), (0 : Int), (0 : Int)), (0 : Int), (2 : Int))
    else
      Option.bind (f68 k (x.1, x.2.1, x.2.2.1)) fun r3 =>
      bif (decide (r3 > (65536 : Int))) then
        some (((0 : Int), (0 : Int), (0 : Int), (0 : Int)), (0 : Int), (3 : Int))
      else
        Option.bind (f69 k (((0 : Int), x.2.2.2.1, x.2.2.2.2, r2), x.1, x.2.1, x.2.2.1, r3)) fun r4 =>
        Option.bind (f112 k (((0 : Int), x.2.2.2.1, x.2.2.2.2, r2), x.1, x.2.1, x.2.2.1)) fun r5 =>
        bif (decide ((IntKind.wrap .i64 (r5.1 + (IntKind.wrap .i64 ((2 : Int) * r4.1)))) > (65536 : Int))) then
          some (((0 : Int), (0 : Int), (0 : Int), (0 : Int)), (0 : Int), (3 : Int))
        else
          some (((IntKind.wrap .i64 (r5.1 + r4.1)), x.2.2.2.1, x.2.2.2.2, r2), (IntKind.wrap .i64 ((IntKind.wrap .i64 (r5.1 + r4.1)) + r4.1)), (0 : Int))
end Go.Proofs.Ytbfkfobfhjgphaa.Fn
