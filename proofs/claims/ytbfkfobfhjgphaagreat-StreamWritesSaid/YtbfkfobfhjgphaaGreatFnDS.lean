/- The functions of the given program as Lean functions. Printed by a program of this session. -/
import Derived.Test.YtbfkfobfhjgphaaGreatFnD0
set_option linter.unusedVariables false
set_option maxRecDepth 100000
namespace Go.Proofs.YtbfkfobfhjgphaaGreat.Fn
open Go Go.Pev Go.Proofs
/-- soundservice/ratio.divisor -/
noncomputable def L202_1 (k : Nat) {R : Type} (K0 : Int → Option R) (y : Int × Int) (next : (Int × Int) → Option R) : Option R :=
  bif (y.2 != (0 : Int)) then
    bif (y.2 == 0) then
      none
    else
      next (y.2, (Int.tmod y.1 y.2))
  else
    K0 y.1
noncomputable def f202 (k : Nat) (x : Int × Int) : Option (Int) :=
  loopC k (L202_1 k
    (fun z1 =>
      some z1))
    x
/-- soundservice/ratio.Valid -/
noncomputable def f227 (k : Nat) (x : Int × Int) : Option (Bool) :=
  bif (decide (x.1 ≥ (1 : Int))) then
    bif (decide (x.2 ≥ (1 : Int))) then
      bif (decide (x.1 ≤ (68719476736 : Int))) then
        bif (decide (x.2 ≤ (68719476736 : Int))) then
          Option.bind (f202 k x) fun r1 =>
          some (r1 == (1 : Int))
        else
          some false
      else
        some false
    else
      some false
  else
    some false
/-- soundservice/phase.tuned -/
noncomputable def f228 (k : Nat) (x : Int) : Option (Bool) :=
  bif (decide (x ≥ (-4096 : Int))) then
    some (decide (x ≤ (4096 : Int)))
  else
    some false
/-- soundservice/phase.parts -/
noncomputable def f226 (k : Nat) (x : Int × Int × Int × Int × Int) : Option (Int) :=
  some (IntKind.wrap .i64 (x.2.1 * (65536 : Int)))
/-- soundservice/phase.Valid -/
noncomputable def f173 (k : Nat) (x : Int × Int × Int × Int × Int) : Option (Bool) :=
  Option.bind (f227 k (x.1, x.2.1)) fun r1 =>
  bif r1 then
    bif (decide (x.1 ≤ (768000 : Int))) then
      bif (decide (x.2.1 ≤ (768000 : Int))) then
        Option.bind (f228 k x.2.2.1) fun r2 =>
        bif r2 then
          bif (decide (x.2.2.2.1 ≥ (0 : Int))) then
            bif (decide (x.2.2.2.1 ≤ (1125899906842624 : Int))) then
              bif (decide (x.2.2.2.2 ≥ (0 : Int))) then
                Option.bind (f226 k x) fun r3 =>
                some (decide (x.2.2.2.2 < r3))
              else
                some false
            else
              some false
          else
            some false
        else
          some false
      else
        some false
    else
      some false
  else
    some false
/-- soundservice/phase.New -/
noncomputable def f143 (k : Nat) (x : Int × Int) : Option ((Int × Int × Int × Int × Int) × Int) :=
  Option.bind (f173 k (x.1, x.2, (0 : Int), (0 : Int), (0 : Int))) fun r1 =>
  bif (!r1) then
    some (((0 : Int), (0 : Int), (0 : Int), (0 : Int), (0 : Int)), (1 : Int))
  else
    some ((x.1, x.2, (0 : Int), (0 : Int), (0 : Int)), (0 : Int))
/-- soundservice/resample.rest -/
noncomputable def f198 (k : Nat) (x : Int × Int × Int × Int × Int × Int × List (Int)) : Option (Int × List (Int)) :=
  some (x.1, x.2.2.2.2.2.2)
/-- soundservice/sample.is -/
noncomputable def f164 (k : Nat) (x : Int) : Option (Bool) :=
  bif (decide (x ≥ (-8388608 : Int))) then
    some (decide (x ≤ (8388607 : Int)))
  else
    some false
/-- soundservice/sample.Valid -/
noncomputable def L92_4 (k : Nat) {R : Type} (K0 : Bool → Option R) (K1 : Unit → Option R) (y : List (Int) × Int × Int) (next : (List (Int) × Int × Int) → Option R) : Option R :=
  bif (decide (y.2.2 < y.2.1)) then
    bif (decide (0 ≤ y.2.2) && decide (y.2.2 < ((y.1).length : Int))) then
      Option.bind (f164 k ((y.1).getD (y.2.2).toNat (0 : Int))) fun r1 =>
      bif (!r1) then
        K0 false
      else
        next (y.1, y.2.1, (IntKind.wrap .i64 (y.2.2 + (1 : Int))))
    else
      none
  else
    K1 ()
noncomputable def f92 (k : Nat) (x : Int × List (Int)) : Option (Bool) :=
  bif (decide (x.1 < (1 : Int))) then
    some false
  else
  bif (decide (x.1 > (8 : Int))) then
    some false
  else
  bif (x.1 == 0) then
    none
  else
  bif ((Int.tmod (((x.2).length : Int)) x.1) != (0 : Int)) then
    some false
  else
  bif (x.1 == 0) then
    none
  else
  bif (decide ((IntKind.wrap .i64 (Int.tdiv (((x.2).length : Int)) x.1)) > (65536 : Int))) then
    some false
  else
    loopC k (L92_4 k
      (fun z2 =>
        some z2)
      (fun z3 =>
        some true))
      (x.2, (((x.2).length : Int)), (0 : Int))
/-- soundservice/resample.Valid -/
noncomputable def f123 (k : Nat) (x : Int × Int × Int × Int × Int × Int × List (Int)) : Option (Bool) :=
  Option.bind (f173 k (x.2.1, x.2.2.1, x.2.2.2.1, x.2.2.2.2.1, x.2.2.2.2.2.1)) fun r1 =>
  bif r1 then
    Option.bind (f198 k x) fun r2 =>
    Option.bind (f92 k r2) fun r3 =>
    some r3
  else
    some false
/-- soundservice/resample.New -/
noncomputable def f68 (k : Nat) (x : Int × Int × Int) : Option ((Int × Int × Int × Int × Int × Int × List (Int)) × Int) :=
  Option.bind (f143 k x.2) fun r1 =>
  bif (r1.2 != (0 : Int)) then
    some (((0 : Int), (0 : Int), (0 : Int), (0 : Int), (0 : Int), (0 : Int), []), (1 : Int))
  else
    Option.bind (f123 k (x.1, r1.1.1, r1.1.2.1, r1.1.2.2.1, r1.1.2.2.2.1, r1.1.2.2.2.2, [])) fun r2 =>
    bif (!r2) then
      some (((0 : Int), (0 : Int), (0 : Int), (0 : Int), (0 : Int), (0 : Int), []), (1 : Int))
    else
      some ((x.1, r1.1.1, r1.1.2.1, r1.1.2.2.1, r1.1.2.2.2.1, r1.1.2.2.2.2, []), (0 : Int))
/-- soundservice/ring.Valid -/
noncomputable def f125 (k : Nat) (x : Int × Int × Int × Int × List (Int)) : Option (Bool) :=
  bif (decide (x.2.1 < (1 : Int))) then
    some false
  else
  bif (decide (x.2.1 > (65536 : Int))) then
    some false
  else
  bif (decide (x.2.2.2.1 < (0 : Int))) then
    some false
  else
  bif (decide (x.2.2.2.1 > x.2.2.1)) then
    some false
  else
  bif (decide (x.2.2.1 > (1125899906842624 : Int))) then
    some false
  else
    Option.bind (f92 k (x.1, x.2.2.2.2)) fun r1 =>
    bif r1 then
      bif (x.1 == 0) then
        none
      else
      bif ((IntKind.wrap .i64 (x.2.2.1 - x.2.2.2.1)) == (IntKind.wrap .i64 (Int.tdiv (((x.2.2.2.2).length : Int)) x.1))) then
        some (decide ((IntKind.wrap .i64 (x.2.2.1 - x.2.2.2.1)) ≤ x.2.1))
      else
        some false
    else
      some false
/-- soundservice/ring.New -/
noncomputable def f69 (k : Nat) (x : Int × Int) : Option ((Int × Int × Int × Int × List (Int)) × Int) :=
  Option.bind (f125 k (x.1, x.2, (0 : Int), (0 : Int), [])) fun r1 =>
  bif (!r1) then
    some (((0 : Int), (0 : Int), (0 : Int), (0 : Int), []), (2 : Int))
  else
    some ((x.1, x.2, (0 : Int), (0 : Int), []), (0 : Int))
/-- soundservice/resample.Waiting -/
noncomputable def f99 (k : Nat) (x : Int × Int × Int × Int × Int × Int × List (Int)) : Option (Int) :=
  Option.bind (f123 k x) fun r1 =>
  bif (!r1) then
    some (0 : Int)
  else
  bif (x.1 == 0) then
    none
  else
    some (IntKind.wrap .i64 (Int.tdiv (((x.2.2.2.2.2.2).length : Int)) x.1))
/-- soundservice/stream.unused -/
noncomputable def f124 (k : Nat) (x : Int × Int × Int × Int × List (Int)) : Option (Bool) :=
  bif (x.1 == (0 : Int)) then
    bif (x.2.1 == (0 : Int)) then
      bif (x.2.2.1 == (0 : Int)) then
        bif (x.2.2.2.1 == (0 : Int)) then
          some ((((x.2.2.2.2).length : Int)) == (0 : Int))
        else
          some false
      else
        some false
    else
      some false
  else
    some false
/-- soundservice/stream.Valid -/
noncomputable def f47 (k : Nat) (x : Int × Int × Int × Int × Int × Int × Int × Int × Int × Int × List (Int) × Int × Int × Int × Int × List (Int) × Int × Int × Int) : Option (Bool) :=
  bif (decide (x.2.1 < (1 : Int))) then
    bif (decide (x.2.1 < (1 : Int))) then
      some false
    else
    bif (x.1 == (1 : Int)) then
      Option.bind (f99 k (x.2.2.2.2.1, x.2.2.2.2.2.1, x.2.2.2.2.2.2.1, x.2.2.2.2.2.2.2.1, x.2.2.2.2.2.2.2.2.1, x.2.2.2.2.2.2.2.2.2.1, x.2.2.2.2.2.2.2.2.2.2.1)) fun r1 =>
      bif (decide (r1 ≤ x.2.2.1)) then
        Option.bind (f124 k (x.2.2.2.2.2.2.2.2.2.2.2.1, x.2.2.2.2.2.2.2.2.2.2.2.2.1, x.2.2.2.2.2.2.2.2.2.2.2.2.2.1, x.2.2.2.2.2.2.2.2.2.2.2.2.2.2.1, x.2.2.2.2.2.2.2.2.2.2.2.2.2.2.2.1)) fun r2 =>
        some r2
      else
        some false
    else
    bif (x.1 == (2 : Int)) then
      Option.bind (f125 k (x.2.2.2.2.2.2.2.2.2.2.2.1, x.2.2.2.2.2.2.2.2.2.2.2.2.1, x.2.2.2.2.2.2.2.2.2.2.2.2.2.1, x.2.2.2.2.2.2.2.2.2.2.2.2.2.2.1, x.2.2.2.2.2.2.2.2.2.2.2.2.2.2.2.1)) fun r3 =>
      bif r3 then
        bif (x.2.2.2.2.2.2.2.2.2.2.2.2.1 == x.2.2.1) then
          some (x.2.2.2.2.2.2.2.2.2.2.2.1 == x.2.2.2.2.1)
        else
          some false
      else
        some false
    else
      some false
  else
  bif (decide (x.2.1 > (7 : Int))) then
    bif (decide (x.2.1 > (7 : Int))) then
      some false
    else
    bif (x.1 == (1 : Int)) then
      Option.bind (f99 k (x.2.2.2.2.1, x.2.2.2.2.2.1, x.2.2.2.2.2.2.1, x.2.2.2.2.2.2.2.1, x.2.2.2.2.2.2.2.2.1, x.2.2.2.2.2.2.2.2.2.1, x.2.2.2.2.2.2.2.2.2.2.1)) fun r4 =>
      bif (decide (r4 ≤ x.2.2.1)) then
        Option.bind (f124 k (x.2.2.2.2.2.2.2.2.2.2.2.1, x.2.2.2.2.2.2.2.2.2.2.2.2.1, x.2.2.2.2.2.2.2.2.2.2.2.2.2.1, x.2.2.2.2.2.2.2.2.2.2.2.2.2.2.1, x.2.2.2.2.2.2.2.2.2.2.2.2.2.2.2.1)) fun r5 =>
        some r5
      else
        some false
    else
    bif (x.1 == (2 : Int)) then
      Option.bind (f125 k (x.2.2.2.2.2.2.2.2.2.2.2.1, x.2.2.2.2.2.2.2.2.2.2.2.2.1, x.2.2.2.2.2.2.2.2.2.2.2.2.2.1, x.2.2.2.2.2.2.2.2.2.2.2.2.2.2.1, x.2.2.2.2.2.2.2.2.2.2.2.2.2.2.2.1)) fun r6 =>
      bif r6 then
        bif (x.2.2.2.2.2.2.2.2.2.2.2.2.1 == x.2.2.1) then
          some (x.2.2.2.2.2.2.2.2.2.2.2.1 == x.2.2.2.2.1)
        else
          some false
      else
        some false
    else
      some false
  else
  bif (decide (x.2.2.1 < (1 : Int))) then
    bif (decide (x.2.2.1 < (1 : Int))) then
      some false
    else
    bif (x.1 == (1 : Int)) then
      Option.bind (f99 k (x.2.2.2.2.1, x.2.2.2.2.2.1, x.2.2.2.2.2.2.1, x.2.2.2.2.2.2.2.1, x.2.2.2.2.2.2.2.2.1, x.2.2.2.2.2.2.2.2.2.1, x.2.2.2.2.2.2.2.2.2.2.1)) fun r7 =>
      bif (decide (r7 ≤ x.2.2.1)) then
        Option.bind (f124 k (x.2.2.2.2.2.2.2.2.2.2.2.1, x.2.2.2.2.2.2.2.2.2.2.2.2.1, x.2.2.2.2.2.2.2.2.2.2.2.2.2.1, x.2.2.2.2.2.2.2.2.2.2.2.2.2.2.1, x.2.2.2.2.2.2.2.2.2.2.2.2.2.2.2.1)) fun r8 =>
        some r8
      else
        some false
    else
    bif (x.1 == (2 : Int)) then
      Option.bind (f125 k (x.2.2.2.2.2.2.2.2.2.2.2.1, x.2.2.2.2.2.2.2.2.2.2.2.2.1, x.2.2.2.2.2.2.2.2.2.2.2.2.2.1, x.2.2.2.2.2.2.2.2.2.2.2.2.2.2.1, x.2.2.2.2.2.2.2.2.2.2.2.2.2.2.2.1)) fun r9 =>
      bif r9 then
        bif (x.2.2.2.2.2.2.2.2.2.2.2.2.1 == x.2.2.1) then
          some (x.2.2.2.2.2.2.2.2.2.2.2.1 == x.2.2.2.2.1)
        else
          some false
      else
        some false
    else
      some false
  else
  bif (decide (x.2.2.1 > (65536 : Int))) then
    bif (decide (x.2.2.1 > (65536 : Int))) then
      some false
    else
    bif (x.1 == (1 : Int)) then
      Option.bind (f99 k (x.2.2.2.2.1, x.2.2.2.2.2.1, x.2.2.2.2.2.2.1, x.2.2.2.2.2.2.2.1, x.2.2.2.2.2.2.2.2.1, x.2.2.2.2.2.2.2.2.2.1, x.2.2.2.2.2.2.2.2.2.2.1)) fun r10 =>
      bif (decide (r10 ≤ x.2.2.1)) then
        Option.bind (f124 k (x.2.2.2.2.2.2.2.2.2.2.2.1, x.2.2.2.2.2.2.2.2.2.2.2.2.1, x.2.2.2.2.2.2.2.2.2.2.2.2.2.1, x.2.2.2.2.2.2.2.2.2.2.2.2.2.2.1, x.2.2.2.2.2.2.2.2.2.2.2.2.2.2.2.1)) fun r11 =>
        some r11
      else
        some false
    else
    bif (x.1 == (2 : Int)) then
      Option.bind (f125 k (x.2.2.2.2.2.2.2.2.2.2.2.1, x.2.2.2.2.2.2.2.2.2.2.2.2.1, x.2.2.2.2.2.2.2.2.2.2.2.2.2.1, x.2.2.2.2.2.2.2.2.2.2.2.2.2.2.1, x.2.2.2.2.2.2.2.2.2.2.2.2.2.2.2.1)) fun r12 =>
      bif r12 then
        bif (x.2.2.2.2.2.2.2.2.2.2.2.2.1 == x.2.2.1) then
          some (x.2.2.2.2.2.2.2.2.2.2.2.1 == x.2.2.2.2.1)
        else
          some false
      else
        some false
    else
      some false
  else
  bif (decide (x.2.2.2.1 < (0 : Int))) then
    bif (decide (x.2.2.2.1 < (0 : Int))) then
      some false
    else
    bif (x.1 == (1 : Int)) then
      Option.bind (f99 k (x.2.2.2.2.1, x.2.2.2.2.2.1, x.2.2.2.2.2.2.1, x.2.2.2.2.2.2.2.1, x.2.2.2.2.2.2.2.2.1, x.2.2.2.2.2.2.2.2.2.1, x.2.2.2.2.2.2.2.2.2.2.1)) fun r13 =>
      bif (decide (r13 ≤ x.2.2.1)) then
        Option.bind (f124 k (x.2.2.2.2.2.2.2.2.2.2.2.1, x.2.2.2.2.2.2.2.2.2.2.2.2.1, x.2.2.2.2.2.2.2.2.2.2.2.2.2.1, x.2.2.2.2.2.2.2.2.2.2.2.2.2.2.1, x.2.2.2.2.2.2.2.2.2.2.2.2.2.2.2.1)) fun r14 =>
        some r14
      else
        some false
    else
    bif (x.1 == (2 : Int)) then
      Option.bind (f125 k (x.2.2.2.2.2.2.2.2.2.2.2.1, x.2.2.2.2.2.2.2.2.2.2.2.2.1, x.2.2.2.2.2.2.2.2.2.2.2.2.2.1, x.2.2.2.2.2.2.2.2.2.2.2.2.2.2.1, x.2.2.2.2.2.2.2.2.2.2.2.2.2.2.2.1)) fun r15 =>
      bif r15 then
        bif (x.2.2.2.2.2.2.2.2.2.2.2.2.1 == x.2.2.1) then
          some (x.2.2.2.2.2.2.2.2.2.2.2.1 == x.2.2.2.2.1)
        else
          some false
      else
        some false
    else
      some false
  else
  bif (decide (x.2.2.2.1 > x.2.2.1)) then
    bif (decide (x.2.2.2.1 > x.2.2.1)) then
      some false
    else
    bif (x.1 == (1 : Int)) then
      Option.bind (f99 k (x.2.2.2.2.1, x.2.2.2.2.2.1, x.2.2.2.2.2.2.1, x.2.2.2.2.2.2.2.1, x.2.2.2.2.2.2.2.2.1, x.2.2.2.2.2.2.2.2.2.1, x.2.2.2.2.2.2.2.2.2.2.1)) fun r16 =>
      bif (decide (r16 ≤ x.2.2.1)) then
        Option.bind (f124 k (x.2.2.2.2.2.2.2.2.2.2.2.1, x.2.2.2.2.2.2.2.2.2.2.2.2.1, x.2.2.2.2.2.2.2.2.2.2.2.2.2.1, x.2.2.2.2.2.2.2.2.2.2.2.2.2.2.1, x.2.2.2.2.2.2.2.2.2.2.2.2.2.2.2.1)) fun r17 =>
        some r17
      else
        some false
    else
    bif (x.1 == (2 : Int)) then
      Option.bind (f125 k (x.2.2.2.2.2.2.2.2.2.2.2.1, x.2.2.2.2.2.2.2.2.2.2.2.2.1, x.2.2.2.2.2.2.2.2.2.2.2.2.2.1, x.2.2.2.2.2.2.2.2.2.2.2.2.2.2.1, x.2.2.2.2.2.2.2.2.2.2.2.2.2.2.2.1)) fun r18 =>
      bif r18 then
        bif (x.2.2.2.2.2.2.2.2.2.2.2.2.1 == x.2.2.1) then
          some (x.2.2.2.2.2.2.2.2.2.2.2.1 == x.2.2.2.2.1)
        else
          some false
      else
        some false
    else
      some false
  else
    Option.bind (f123 k (x.2.2.2.2.1, x.2.2.2.2.2.1, x.2.2.2.2.2.2.1, x.2.2.2.2.2.2.2.1, x.2.2.2.2.2.2.2.2.1, x.2.2.2.2.2.2.2.2.2.1, x.2.2.2.2.2.2.2.2.2.2.1)) fun r19 =>
    bif (!r19) then
      bif (!r19) then
        some false
      else
      bif (x.1 == (1 : Int)) then
        Option.bind (f99 k (x.2.2.2.2.1, x.2.2.2.2.2.1, x.2.2.2.2.2.2.1, x.2.2.2.2.2.2.2.1, x.2.2.2.2.2.2.2.2.1, x.2.2.2.2.2.2.2.2.2.1, x.2.2.2.2.2.2.2.2.2.2.1)) fun r20 =>
        bif (decide (r20 ≤ x.2.2.1)) then
          Option.bind (f124 k (x.2.2.2.2.2.2.2.2.2.2.2.1, x.2.2.2.2.2.2.2.2.2.2.2.2.1, x.2.2.2.2.2.2.2.2.2.2.2.2.2.1, x.2.2.2.2.2.2.2.2.2.2.2.2.2.2.1, x.2.2.2.2.2.2.2.2.2.2.2.2.2.2.2.1)) fun r21 =>
          some r21
        else
          some false
      else
      bif (x.1 == (2 : Int)) then
        Option.bind (f125 k (x.2.2.2.2.2.2.2.2.2.2.2.1, x.2.2.2.2.2.2.2.2.2.2.2.2.1, x.2.2.2.2.2.2.2.2.2.2.2.2.2.1, x.2.2.2.2.2.2.2.2.2.2.2.2.2.2.1, x.2.2.2.2.2.2.2.2.2.2.2.2.2.2.2.1)) fun r22 =>
        bif r22 then
          bif (x.2.2.2.2.2.2.2.2.2.2.2.2.1 == x.2.2.1) then
            some (x.2.2.2.2.2.2.2.2.2.2.2.1 == x.2.2.2.2.1)
          else
            some false
        else
          some false
      else
        some false
    else
    bif (x.2.2.2.2.2.2.2.1 != (0 : Int)) then
      bif (x.2.2.2.2.2.2.2.1 != (0 : Int)) then
        some false
      else
      bif (x.1 == (1 : Int)) then
        Option.bind (f99 k (x.2.2.2.2.1, x.2.2.2.2.2.1, x.2.2.2.2.2.2.1, x.2.2.2.2.2.2.2.1, x.2.2.2.2.2.2.2.2.1, x.2.2.2.2.2.2.2.2.2.1, x.2.2.2.2.2.2.2.2.2.2.1)) fun r23 =>
        bif (decide (r23 ≤ x.2.2.1)) then
          Option.bind (f124 k (x.2.2.2.2.2.2.2.2.2.2.2.1, x.2.2.2.2.2.2.2.2.2.2.2.2.1, x.2.2.2.2.2.2.2.2.2.2.2.2.2.1, x.2.2.2.2.2.2.2.2.2.2.2.2.2.2.1, x.2.2.2.2.2.2.2.2.2.2.2.2.2.2.2.1)) fun r24 =>
          some r24
        else
          some false
      else
      bif (x.1 == (2 : Int)) then
        Option.bind (f125 k (x.2.2.2.2.2.2.2.2.2.2.2.1, x.2.2.2.2.2.2.2.2.2.2.2.2.1, x.2.2.2.2.2.2.2.2.2.2.2.2.2.1, x.2.2.2.2.2.2.2.2.2.2.2.2.2.2.1, x.2.2.2.2.2.2.2.2.2.2.2.2.2.2.2.1)) fun r25 =>
        bif r25 then
          bif (x.2.2.2.2.2.2.2.2.2.2.2.2.1 == x.2.2.1) then
            some (x.2.2.2.2.2.2.2.2.2.2.2.1 == x.2.2.2.2.1)
          else
            some false
        else
          some false
      else
        some false
    else
    bif (decide (x.2.2.2.2.2.2.2.2.2.2.2.2.2.2.2.2.1 < (0 : Int))) then
      bif (decide (x.2.2.2.2.2.2.2.2.2.2.2.2.2.2.2.2.1 < (0 : Int))) then
        some false
      else
      bif (x.1 == (1 : Int)) then
        Option.bind (f99 k (x.2.2.2.2.1, x.2.2.2.2.2.1, x.2.2.2.2.2.2.1, x.2.2.2.2.2.2.2.1, x.2.2.2.2.2.2.2.2.1, x.2.2.2.2.2.2.2.2.2.1, x.2.2.2.2.2.2.2.2.2.2.1)) fun r26 =>
        bif (decide (r26 ≤ x.2.2.1)) then
          Option.bind (f124 k (x.2.2.2.2.2.2.2.2.2.2.2.1, x.2.2.2.2.2.2.2.2.2.2.2.2.1, x.2.2.2.2.2.2.2.2.2.2.2.2.2.1, x.2.2.2.2.2.2.2.2.2.2.2.2.2.2.1, x.2.2.2.2.2.2.2.2.2.2.2.2.2.2.2.1)) fun r27 =>
          some r27
        else
          some false
      else
      bif (x.1 == (2 : Int)) then
        Option.bind (f125 k (x.2.2.2.2.2.2.2.2.2.2.2.1, x.2.2.2.2.2.2.2.2.2.2.2.2.1, x.2.2.2.2.2.2.2.2.2.2.2.2.2.1, x.2.2.2.2.2.2.2.2.2.2.2.2.2.2.1, x.2.2.2.2.2.2.2.2.2.2.2.2.2.2.2.1)) fun r28 =>
        bif r28 then
          bif (x.2.2.2.2.2.2.2.2.2.2.2.2.1 == x.2.2.1) then
            some (x.2.2.2.2.2.2.2.2.2.2.2.1 == x.2.2.2.2.1)
          else
            some false
        else
          some false
      else
        some false
    else
    bif (decide (x.2.2.2.2.2.2.2.2.2.2.2.2.2.2.2.2.2.1 < (0 : Int))) then
      bif (decide (x.2.2.2.2.2.2.2.2.2.2.2.2.2.2.2.2.2.1 < (0 : Int))) then
        some false
      else
      bif (x.1 == (1 : Int)) then
        Option.bind (f99 k (x.2.2.2.2.1, x.2.2.2.2.2.1, x.2.2.2.2.2.2.1, x.2.2.2.2.2.2.2.1, x.2.2.2.2.2.2.2.2.1, x.2.2.2.2.2.2.2.2.2.1, x.2.2.2.2.2.2.2.2.2.2.1)) fun r29 =>
        bif (decide (r29 ≤ x.2.2.1)) then
          Option.bind (f124 k (x.2.2.2.2.2.2.2.2.2.2.2.1, x.2.2.2.2.2.2.2.2.2.2.2.2.1, x.2.2.2.2.2.2.2.2.2.2.2.2.2.1, x.2.2.2.2.2.2.2.2.2.2.2.2.2.2.1, x.2.2.2.2.2.2.2.2.2.2.2.2.2.2.2.1)) fun r30 =>
          some r30
        else
          some false
      else
      bif (x.1 == (2 : Int)) then
        Option.bind (f125 k (x.2.2.2.2.2.2.2.2.2.2.2.1, x.2.2.2.2.2.2.2.2.2.2.2.2.1, x.2.2.2.2.2.2.2.2.2.2.2.2.2.1, x.2.2.2.2.2.2.2.2.2.2.2.2.2.2.1, x.2.2.2.2.2.2.2.2.2.2.2.2.2.2.2.1)) fun r31 =>
        bif r31 then
          bif (x.2.2.2.2.2.2.2.2.2.2.2.2.1 == x.2.2.1) then
            some (x.2.2.2.2.2.2.2.2.2.2.2.1 == x.2.2.2.2.1)
          else
            some false
        else
          some false
      else
        some false
    else
    bif (decide (x.2.2.2.2.2.2.2.2.2.2.2.2.2.2.2.2.2.2 < (0 : Int))) then
      some false
    else
    bif (x.1 == (1 : Int)) then
      Option.bind (f99 k (x.2.2.2.2.1, x.2.2.2.2.2.1, x.2.2.2.2.2.2.1, x.2.2.2.2.2.2.2.1, x.2.2.2.2.2.2.2.2.1, x.2.2.2.2.2.2.2.2.2.1, x.2.2.2.2.2.2.2.2.2.2.1)) fun r32 =>
      bif (decide (r32 ≤ x.2.2.1)) then
        Option.bind (f124 k (x.2.2.2.2.2.2.2.2.2.2.2.1, x.2.2.2.2.2.2.2.2.2.2.2.2.1, x.2.2.2.2.2.2.2.2.2.2.2.2.2.1, x.2.2.2.2.2.2.2.2.2.2.2.2.2.2.1, x.2.2.2.2.2.2.2.2.2.2.2.2.2.2.2.1)) fun r33 =>
        some r33
      else
        some false
    else
    bif (x.1 == (2 : Int)) then
      Option.bind (f125 k (x.2.2.2.2.2.2.2.2.2.2.2.1, x.2.2.2.2.2.2.2.2.2.2.2.2.1, x.2.2.2.2.2.2.2.2.2.2.2.2.2.1, x.2.2.2.2.2.2.2.2.2.2.2.2.2.2.1, x.2.2.2.2.2.2.2.2.2.2.2.2.2.2.2.1)) fun r34 =>
      bif r34 then
        bif (x.2.2.2.2.2.2.2.2.2.2.2.2.1 == x.2.2.1) then
          some (x.2.2.2.2.2.2.2.2.2.2.2.1 == x.2.2.2.2.1)
        else
          some false
      else
        some false
    else
      some false
/-- soundservice/stream.New -/
noncomputable def f15 (k : Nat) (x : Int × Int × (Int × Int) × Int × Int) : Option ((Int × Int × Int × Int × Int × Int × Int × Int × Int × Int × List (Int) × Int × Int × Int × Int × List (Int) × Int × Int × Int) × Int) :=
  Option.bind (f68 k (x.2.1, x.2.2.1)) fun r1 =>
  bif (x.1 == (2 : Int)) then
    Option.bind (f69 k (x.2.1, x.2.2.2.1)) fun r2 =>
    Option.bind (f47 k (x.1, (1 : Int), x.2.2.2.1, x.2.2.2.2, r1.1.1, r1.1.2.1, r1.1.2.2.1, r1.1.2.2.2.1, r1.1.2.2.2.2.1, r1.1.2.2.2.2.2.1, r1.1.2.2.2.2.2.2, r2.1.1, r2.1.2.1, r2.1.2.2.1, r2.1.2.2.2.1, r2.1.2.2.2.2, (0 : Int), (0 : Int), (0 : Int))) fun r3 =>
    bif (!r3) then
      some (((0 : Int), (0 : Int), (0 : Int), (0 : Int), (0 : Int), (0 : Int), (0 : Int), (0 : Int), (0 : Int), (0 : Int), [], (0 : Int), (0 : Int), (0 : Int), (0 : Int), [], (0 : Int), (0 : Int), (0 : Int)), (1 : Int))
    else
      some ((x.1, (1 : Int), x.2.2.2.1, x.2.2.2.2, r1.1.1, r1.1.2.1, r1.1.2.2.1, r1.1.2.2.2.1, r1.1.2.2.2.2.1, r1.1.2.2.2.2.2.1, r1.1.2.2.2.2.2.2, r2.1.1, r2.1.2.1, r2.1.2.2.1, r2.1.2.2.2.1, r2.1.2.2.2.2, (0 : Int), (0 : Int), (0 : Int)), (0 : Int))
  else
    Option.bind (f47 k (x.1, (1 : Int), x.2.2.2.1, x.2.2.2.2, r1.1.1, r1.1.2.1, r1.1.2.2.1, r1.1.2.2.2.1, r1.1.2.2.2.2.1, r1.1.2.2.2.2.2.1, r1.1.2.2.2.2.2.2, (0 : Int), (0 : Int), (0 : Int), (0 : Int), [], (0 : Int), (0 : Int), (0 : Int))) fun r4 =>
    bif (!r4) then
      some (((0 : Int), (0 : Int), (0 : Int), (0 : Int), (0 : Int), (0 : Int), (0 : Int), (0 : Int), (0 : Int), (0 : Int), [], (0 : Int), (0 : Int), (0 : Int), (0 : Int), [], (0 : Int), (0 : Int), (0 : Int)), (1 : Int))
    else
      some ((x.1, (1 : Int), x.2.2.2.1, x.2.2.2.2, r1.1.1, r1.1.2.1, r1.1.2.2.1, r1.1.2.2.2.1, r1.1.2.2.2.2.1, r1.1.2.2.2.2.2.1, r1.1.2.2.2.2.2.2, (0 : Int), (0 : Int), (0 : Int), (0 : Int), [], (0 : Int), (0 : Int), (0 : Int)), (0 : Int))
/-- soundservice/soundservicemade.Wave -/
noncomputable def L55_6 (k : Nat) {R : Type} (K0 : (Int × Int × Int × Int × Int × Int × Int × List (Int)) → Option R) (y : Int × Int × Int × Int × Int × Int × Int × Int × List (Int)) (next : (Int × Int × Int × Int × Int × Int × Int × Int × List (Int)) → Option R) : Option R :=
  bif (decide (y.2.2.2.2.2.1 < y.2.1)) then
    bif (decide (((y.2.2.2.2.2.2.2.2).length + (([(IntKind.wrap .i32 (IntKind.wrap .i64 ((IntKind.wrap .i64 ((Int.tmod (IntKind.wrap .i64 ((IntKind.wrap .i64 ((IntKind.wrap .i64 (y.2.2.2.2.1 * (7919 : Int))) + (IntKind.wrap .i64 (y.2.2.2.2.2.1 * (104729 : Int))))) + (IntKind.wrap .i64 (y.1 * (15485863 : Int))))) (4001 : Int)) - (2000 : Int))) * (1000 : Int))))])).length) * 4 ≤ maxBytes) && decide ((y.2.2.2.2.2.2.2.2).length + (([(IntKind.wrap .i32 (IntKind.wrap .i64 ((IntKind.wrap .i64 ((Int.tmod (IntKind.wrap .i64 ((IntKind.wrap .i64 ((IntKind.wrap .i64 (y.2.2.2.2.1 * (7919 : Int))) + (IntKind.wrap .i64 (y.2.2.2.2.2.1 * (104729 : Int))))) + (IntKind.wrap .i64 (y.1 * (15485863 : Int))))) (4001 : Int)) - (2000 : Int))) * (1000 : Int))))])).length ≤ 9223372036854775807)) then
      next (y.1, y.2.1, y.2.2.1, y.2.2.2.1, y.2.2.2.2.1, (IntKind.wrap .i64 (y.2.2.2.2.2.1 + (1 : Int))), y.2.2.2.2.2.2.1, y.2.2.2.2.2.2.2.1, (y.2.2.2.2.2.2.2.2 ++ ([(IntKind.wrap .i32 (IntKind.wrap .i64 ((IntKind.wrap .i64 ((Int.tmod (IntKind.wrap .i64 ((IntKind.wrap .i64 ((IntKind.wrap .i64 (y.2.2.2.2.1 * (7919 : Int))) + (IntKind.wrap .i64 (y.2.2.2.2.2.1 * (104729 : Int))))) + (IntKind.wrap .i64 (y.1 * (15485863 : Int))))) (4001 : Int)) - (2000 : Int))) * (1000 : Int))))])))
    else
      none
  else
    K0 (y.1, y.2.1, y.2.2.1, y.2.2.2.1, y.2.2.2.2.1, y.2.2.2.2.2.2)
noncomputable def L55_3 (k : Nat) {R : Type} (K0 : (Int × Int × List (Int)) → Option R) (y : Int × Int × Int × Int × Int × Int × Int × List (Int)) (next : (Int × Int × Int × Int × Int × Int × Int × List (Int)) → Option R) : Option R :=
  bif (decide (y.2.2.2.2.1 < (IntKind.wrap .i64 (y.2.2.1 + y.2.2.2.1)))) then
    loopC k (L55_6 k
      (fun z2 =>
        next (z2.1, z2.2.1, z2.2.2.1, z2.2.2.2.1, (IntKind.wrap .i64 (z2.2.2.2.2.1 + (1 : Int))), z2.2.2.2.2.2)))
      (y.1, y.2.1, y.2.2.1, y.2.2.2.1, y.2.2.2.2.1, (0 : Int), y.2.2.2.2.2)
  else
    K0 y.2.2.2.2.2
noncomputable def f55 (k : Nat) (x : Int × Int × Int × Int) : Option (Int × List (Int)) :=
  loopC k (L55_3 k
    (fun z3 =>
      some z3.2))
    (x.1, x.2.1, x.2.2.1, x.2.2.2, x.2.2.1, (0 : Int), x.2.1, [])
/-- soundservice/stream.is -/
noncomputable def f91 (k : Nat) (x : (Int × Int × Int × Int × Int × Int × Int × Int × Int × Int × List (Int) × Int × Int × Int × Int × List (Int) × Int × Int × Int) × Int) : Option (Bool) :=
  Option.bind (f47 k x.1) fun r1 =>
  bif r1 then
    some (x.1.1 == x.2)
  else
    some false
/-- soundservice/ring.Fill -/
noncomputable def f128 (k : Nat) (x : Int × Int × Int × Int × List (Int)) : Option (Int) :=
  Option.bind (f125 k x) fun r1 =>
  bif (!r1) then
    some (0 : Int)
  else
    some (IntKind.wrap .i64 (x.2.2.1 - x.2.2.2.1))
/-- soundservice/stream.Waiting -/
noncomputable def f49 (k : Nat) (x : Int × Int × Int × Int × Int × Int × Int × Int × Int × Int × List (Int) × Int × Int × Int × Int × List (Int) × Int × Int × Int) : Option (Int) :=
  Option.bind (f47 k x) fun r1 =>
  bif (!r1) then
    some (0 : Int)
  else
  bif (x.1 == (2 : Int)) then
    Option.bind (f128 k (x.2.2.2.2.2.2.2.2.2.2.2.1, x.2.2.2.2.2.2.2.2.2.2.2.2.1, x.2.2.2.2.2.2.2.2.2.2.2.2.2.1, x.2.2.2.2.2.2.2.2.2.2.2.2.2.2.1, x.2.2.2.2.2.2.2.2.2.2.2.2.2.2.2.1)) fun r2 =>
    some r2
  else
    Option.bind (f99 k (x.2.2.2.2.1, x.2.2.2.2.2.1, x.2.2.2.2.2.2.1, x.2.2.2.2.2.2.2.1, x.2.2.2.2.2.2.2.2.1, x.2.2.2.2.2.2.2.2.2.1, x.2.2.2.2.2.2.2.2.2.2.1)) fun r3 =>
    some r3
/-- soundservice/stream.Room -/
noncomputable def f51 (k : Nat) (x : Int × Int × Int × Int × Int × Int × Int × Int × Int × Int × List (Int) × Int × Int × Int × Int × List (Int) × Int × Int × Int) : Option (Int) :=
  Option.bind (f47 k x) fun r1 =>
  bif (!r1) then
    some (0 : Int)
  else
    Option.bind (f49 k x) fun r2 =>
    some (IntKind.wrap .i64 (x.2.2.1 - r2))
/-- slices.Concat[[]int32,int32] -/
noncomputable def L165_3 (k : Nat) {R : Type} (K0 : (List (List (Int)) × Int) → Option R) (y : List (List (Int)) × Int × List (List (Int)) × Int × Int) (next : (List (List (Int)) × Int × List (List (Int)) × Int × Int) → Option R) : Option R :=
  bif (decide (y.2.2.2.2 < y.2.2.2.1)) then
    bif (decide (0 ≤ y.2.2.2.2) && decide (y.2.2.2.2 < ((y.2.2.1).length : Int))) then
      bif (decide ((IntKind.wrap .i64 (y.2.1 + (((((y.2.2.1).getD (y.2.2.2.2).toNat [])).length : Int)))) < (0 : Int))) then
        none
      else
        next (y.1, (IntKind.wrap .i64 (y.2.1 + (((((y.2.2.1).getD (y.2.2.2.2).toNat [])).length : Int)))), y.2.2.1, y.2.2.2.1, (IntKind.wrap .i64 (y.2.2.2.2 + (1 : Int))))
    else
      none
  else
    K0 (y.1, y.2.1)
noncomputable def L165_11 (k : Nat) {R : Type} (K0 : List (Int) → Option R) (y : List (List (Int)) × Int × Int × List (Int)) (next : (List (List (Int)) × Int × Int × List (Int)) → Option R) : Option R :=
  bif (decide (y.2.2.1 < y.2.1)) then
    bif (decide (0 ≤ y.2.2.1) && decide (y.2.2.1 < ((y.1).length : Int))) then
      bif (decide (((y.2.2.2).length + (((y.1).getD (y.2.2.1).toNat [])).length) * 4 ≤ maxBytes) && decide ((y.2.2.2).length + (((y.1).getD (y.2.2.1).toNat [])).length ≤ 9223372036854775807)) then
        next (y.1, y.2.1, (IntKind.wrap .i64 (y.2.2.1 + (1 : Int))), (y.2.2.2 ++ ((y.1).getD (y.2.2.1).toNat [])))
      else
        none
    else
      none
  else
    K0 y.2.2.2
noncomputable def f165 (k : Nat) (x : List (List (Int))) : Option (List (Int)) :=
  loopC k (L165_3 k
    (fun z1 =>
      Option.bind (f221 k ((), z1.2)) fun r2 =>
      loopC k (L165_11 k
        (fun z3 =>
          some z3))
        (z1.1, (((z1.1).length : Int)), (0 : Int), r2)))
    (x, (0 : Int), x, (((x).length : Int)), (0 : Int))
/-- soundservice/resample.Feed -/
noncomputable def f93 (k : Nat) (x : (Int × Int × Int × Int × Int × Int × List (Int)) × Int × List (Int)) : Option ((Int × Int × Int × Int × Int × Int × List (Int)) × Int) :=
  Option.bind (f123 k x.1) fun r1 =>
  bif (!r1) then
    some (((0 : Int), (0 : Int), (0 : Int), (0 : Int), (0 : Int), (0 : Int), []), (1 : Int))
  else
    Option.bind (f92 k x.2) fun r2 =>
    bif (!r2) then
      some (((0 : Int), (0 : Int), (0 : Int), (0 : Int), (0 : Int), (0 : Int), []), (1 : Int))
    else
    bif (x.2.1 != x.1.1) then
      some (((0 : Int), (0 : Int), (0 : Int), (0 : Int), (0 : Int), (0 : Int), []), (11 : Int))
    else
    bif (x.1.1 == 0) then
      none
    else
    bif (decide ((IntKind.wrap .i64 (Int.tdiv (IntKind.wrap .i64 ((((x.1.2.2.2.2.2.2).length : Int)) + (((x.2.2).length : Int)))) x.1.1)) > (65536 : Int))) then
      some (((0 : Int), (0 : Int), (0 : Int), (0 : Int), (0 : Int), (0 : Int), []), (3 : Int))
    else
      Option.bind (f165 k ([x.1.2.2.2.2.2.2, x.2.2])) fun r3 =>
      some ((x.1.1, x.1.2.1, x.1.2.2.1, x.1.2.2.2.1, x.1.2.2.2.2.1, x.1.2.2.2.2.2.1, r3), (0 : Int))
/-- soundservice/stream.Write -/
noncomputable def f27 (k : Nat) (x : (Int × Int × Int × Int × Int × Int × Int × Int × Int × Int × List (Int) × Int × Int × Int × Int × List (Int) × Int × Int × Int) × Int × List (Int)) : Option ((Int × Int × Int × Int × Int × Int × Int × Int × Int × Int × List (Int) × Int × Int × Int × Int × List (Int) × Int × Int × Int) × Int) :=
  Option.bind (f91 k (x.1, (1 : Int))) fun r1 =>
  bif (!r1) then
    some (((0 : Int), (0 : Int), (0 : Int), (0 : Int), (0 : Int), (0 : Int), (0 : Int), (0 : Int), (0 : Int), (0 : Int), [], (0 : Int), (0 : Int), (0 : Int), (0 : Int), [], (0 : Int), (0 : Int), (0 : Int)), (1 : Int))
  else
    Option.bind (f92 k x.2) fun r2 =>
    bif (!r2) then
      some (((0 : Int), (0 : Int), (0 : Int), (0 : Int), (0 : Int), (0 : Int), (0 : Int), (0 : Int), (0 : Int), (0 : Int), [], (0 : Int), (0 : Int), (0 : Int), (0 : Int), [], (0 : Int), (0 : Int), (0 : Int)), (1 : Int))
    else
    bif (x.2.1 != x.1.2.2.2.2.1) then
      some (((0 : Int), (0 : Int), (0 : Int), (0 : Int), (0 : Int), (0 : Int), (0 : Int), (0 : Int), (0 : Int), (0 : Int), [], (0 : Int), (0 : Int), (0 : Int), (0 : Int), [], (0 : Int), (0 : Int), (0 : Int)), (11 : Int))
    else
    bif (decide (x.1.2.1 ≥ (5 : Int))) then
      some (((0 : Int), (0 : Int), (0 : Int), (0 : Int), (0 : Int), (0 : Int), (0 : Int), (0 : Int), (0 : Int), (0 : Int), [], (0 : Int), (0 : Int), (0 : Int), (0 : Int), [], (0 : Int), (0 : Int), (0 : Int)), (9 : Int))
    else
    bif (x.2.1 == 0) then
      none
    else
      Option.bind (f51 k x.1) fun r3 =>
      bif (decide ((IntKind.wrap .i64 (Int.tdiv (((x.2.2).length : Int)) x.2.1)) > r3)) then
        some (((0 : Int), (0 : Int), (0 : Int), (0 : Int), (0 : Int), (0 : Int), (0 : Int), (0 : Int), (0 : Int), (0 : Int), [], (0 : Int), (0 : Int), (0 : Int), (0 : Int), [], (0 : Int), (0 : Int), (0 : Int)), (10 : Int))
      else
        Option.bind (f93 k ((x.1.2.2.2.2.1, x.1.2.2.2.2.2.1, x.1.2.2.2.2.2.2.1, x.1.2.2.2.2.2.2.2.1, x.1.2.2.2.2.2.2.2.2.1, x.1.2.2.2.2.2.2.2.2.2.1, x.1.2.2.2.2.2.2.2.2.2.2.1), x.2)) fun r4 =>
        bif (x.1.2.1 == (1 : Int)) then
          bif (decide ((IntKind.wrap .i64 (Int.tdiv (((x.2.2).length : Int)) x.2.1)) > (0 : Int))) then
            some ((x.1.1, (2 : Int), x.1.2.2.1, x.1.2.2.2.1, r4.1.1, r4.1.2.1, r4.1.2.2.1, r4.1.2.2.2.1, r4.1.2.2.2.2.1, r4.1.2.2.2.2.2.1, r4.1.2.2.2.2.2.2, x.1.2.2.2.2.2.2.2.2.2.2.2.1, x.1.2.2.2.2.2.2.2.2.2.2.2.2.1, x.1.2.2.2.2.2.2.2.2.2.2.2.2.2.1, x.1.2.2.2.2.2.2.2.2.2.2.2.2.2.2.1, x.1.2.2.2.2.2.2.2.2.2.2.2.2.2.2.2.1, (IntKind.wrap .i64 (x.1.2.2.2.2.2.2.2.2.2.2.2.2.2.2.2.2.1 + (IntKind.wrap .i64 (Int.tdiv (((x.2.2).length : Int)) x.2.1)))), x.1.2.2.2.2.2.2.2.2.2.2.2.2.2.2.2.2.2), (0 : Int))
          else
            some ((x.1.1, x.1.2.1, x.1.2.2.1, x.1.2.2.2.1, r4.1.1, r4.1.2.1, r4.1.2.2.1, r4.1.2.2.2.1, r4.1.2.2.2.2.1, r4.1.2.2.2.2.2.1, r4.1.2.2.2.2.2.2, x.1.2.2.2.2.2.2.2.2.2.2.2.1, x.1.2.2.2.2.2.2.2.2.2.2.2.2.1, x.1.2.2.2.2.2.2.2.2.2.2.2.2.2.1, x.1.2.2.2.2.2.2.2.2.2.2.2.2.2.2.1, x.1.2.2.2.2.2.2.2.2.2.2.2.2.2.2.2.1, (IntKind.wrap .i64 (x.1.2.2.2.2.2.2.2.2.2.2.2.2.2.2.2.2.1 + (IntKind.wrap .i64 (Int.tdiv (((x.2.2).length : Int)) x.2.1)))), x.1.2.2.2.2.2.2.2.2.2.2.2.2.2.2.2.2.2), (0 : Int))
        else
          some ((x.1.1, x.1.2.1, x.1.2.2.1, x.1.2.2.2.1, r4.1.1, r4.1.2.1, r4.1.2.2.1, r4.1.2.2.2.1, r4.1.2.2.2.2.1, r4.1.2.2.2.2.2.1, r4.1.2.2.2.2.2.2, x.1.2.2.2.2.2.2.2.2.2.2.2.1, x.1.2.2.2.2.2.2.2.2.2.2.2.2.1, x.1.2.2.2.2.2.2.2.2.2.2.2.2.2.1, x.1.2.2.2.2.2.2.2.2.2.2.2.2.2.2.1, x.1.2.2.2.2.2.2.2.2.2.2.2.2.2.2.2.1, (IntKind.wrap .i64 (x.1.2.2.2.2.2.2.2.2.2.2.2.2.2.2.2.2.1 + (IntKind.wrap .i64 (Int.tdiv (((x.2.2).length : Int)) x.2.1)))), x.1.2.2.2.2.2.2.2.2.2.2.2.2.2.2.2.2.2), (0 : Int))
/-- soundservice/stream.bad -/
noncomputable def f100 (k : Nat) (x : Int) : Option (Bool) :=
  bif (decide (x < (0 : Int))) then
    some true
  else
    some (decide (x > (65536 : Int)))
/-- soundservice/phase.check -/
noncomputable def f171 (k : Nat) (x : (Int × Int × Int × Int × Int) × Int) : Option (Int) :=
  Option.bind (f173 k x.1) fun r1 =>
  bif (!r1) then
    some (1 : Int)
  else
  bif (decide (x.2 < (0 : Int))) then
    some (2 : Int)
  else
  bif (decide (x.2 > (65536 : Int))) then
    some (2 : Int)
  else
    some (0 : Int)
/-- soundservice/phase.ahead -/
noncomputable def f225 (k : Nat) (x : (Int × Int × Int × Int × Int) × Int) : Option (Int) :=
  some (IntKind.wrap .i64 (x.1.2.2.2.2 + (IntKind.wrap .i64 ((IntKind.wrap .i64 (x.2 * x.1.1)) * (IntKind.wrap .i64 ((65536 : Int) + x.1.2.2.1))))))
/-- soundservice/phase.need -/
noncomputable def f172 (k : Nat) (x : (Int × Int × Int × Int × Int) × Int) : Option (Int) :=
  bif (x.2 == (0 : Int)) then
    some (0 : Int)
  else
    Option.bind (f225 k (x.1, (IntKind.wrap .i64 (x.2 - (1 : Int))))) fun r1 =>
    Option.bind (f226 k x.1) fun r2 =>
    bif (r2 == 0) then
      none
    else
      Option.bind (f225 k x) fun r3 =>
      Option.bind (f226 k x.1) fun r4 =>
      bif (r4 == 0) then
        none
      else
        some (if (IntKind.wrap .i64 (Int.tdiv r3 r4)) > (IntKind.wrap .i64 ((IntKind.wrap .i64 (Int.tdiv r1 r2)) + (2 : Int))) then (IntKind.wrap .i64 (Int.tdiv r3 r4)) else (IntKind.wrap .i64 ((IntKind.wrap .i64 (Int.tdiv r1 r2)) + (2 : Int))))
/-- soundservice/phase.Need -/
noncomputable def f101 (k : Nat) (x : (Int × Int × Int × Int × Int) × Int) : Option (Int × Int) :=
  Option.bind (f171 k x) fun r1 =>
  bif (r1 != (0 : Int)) then
    some ((0 : Int), r1)
  else
    Option.bind (f172 k x) fun r2 =>
    some (r2, (0 : Int))
/-- soundservice/stream.Owes -/
noncomputable def f32 (k : Nat) (x : (Int × Int × Int × Int × Int × Int × Int × Int × Int × Int × List (Int) × Int × Int × Int × Int × List (Int) × Int × Int × Int) × Int) : Option (Int × Int) :=
  Option.bind (f91 k (x.1, (1 : Int))) fun r1 =>
  bif (!r1) then
    some ((0 : Int), (1 : Int))
  else
    Option.bind (f100 k x.2) fun r2 =>
    bif r2 then
      some ((0 : Int), (2 : Int))
    else
      Option.bind (f101 k ((x.1.2.2.2.2.2.1, x.1.2.2.2.2.2.2.1, x.1.2.2.2.2.2.2.2.1, x.1.2.2.2.2.2.2.2.2.1, x.1.2.2.2.2.2.2.2.2.2.1), x.2)) fun r3 =>
      Option.bind (f49 k x.1) fun r4 =>
      some ((if (IntKind.wrap .i64 (r3.1 - r4)) > (0 : Int) then (IntKind.wrap .i64 (r3.1 - r4)) else (0 : Int)), (0 : Int))
/-- soundservice/stream.turn$1 -/
noncomputable def f222 (k : Nat) (x : (Int × Int × Int × Int × Int × Int × Int × Int × Int × Int × List (Int) × Int × Int × Int × Int × List (Int) × Int × Int × Int) × Int) : Option ((Int × Int × Int × Int × Int × Int × Int × Int × Int × Int × List (Int) × Int × Int × Int × Int × List (Int) × Int × Int × Int) × Int) :=
  some ((x.1.1, x.2, x.1.2.2), x.2)
/-- soundservice/ring.Clear -/
noncomputable def f257 (k : Nat) (x : Int × Int × Int × Int × List (Int)) : Option ((Int × Int × Int × Int × List (Int)) × Int) :=
  Option.bind (f125 k x) fun r1 =>
  bif (!r1) then
    some (((0 : Int), (0 : Int), (0 : Int), (0 : Int), []), (1 : Int))
  else
    some ((x.1, x.2.1, x.2.2.1, x.2.2.1, []), (0 : Int))
/-- soundservice/stream.empty -/
noncomputable def f224 (k : Nat) (x : Int × Int × Int × Int × Int × Int × Int × Int × Int × Int × List (Int) × Int × Int × Int × Int × List (Int) × Int × Int × Int) : Option (Int × Int × Int × Int × Int × Int × Int × Int × Int × Int × List (Int) × Int × Int × Int × Int × List (Int) × Int × Int × Int) :=
  Option.bind (f68 k (x.2.2.2.2.1, x.2.2.2.2.2.1, x.2.2.2.2.2.2.1)) fun r1 =>
  bif (x.1 == (2 : Int)) then
    Option.bind (f257 k (x.2.2.2.2.2.2.2.2.2.2.2.1, x.2.2.2.2.2.2.2.2.2.2.2.2.1, x.2.2.2.2.2.2.2.2.2.2.2.2.2.1, x.2.2.2.2.2.2.2.2.2.2.2.2.2.2.1, x.2.2.2.2.2.2.2.2.2.2.2.2.2.2.2.1)) fun r2 =>
    some (x.1, x.2.1, x.2.2.1, x.2.2.2.1, r1.1.1, r1.1.2.1, r1.1.2.2.1, r1.1.2.2.2.1, r1.1.2.2.2.2.1, r1.1.2.2.2.2.2.1, r1.1.2.2.2.2.2.2, r2.1.1, r2.1.2.1, r2.1.2.2.1, r2.1.2.2.2.1, r2.1.2.2.2.2, x.2.2.2.2.2.2.2.2.2.2.2.2.2.2.2.2)
  else
    some (x.1, x.2.1, x.2.2.1, x.2.2.2.1, r1.1.1, r1.1.2.1, r1.1.2.2.1, r1.1.2.2.2.1, r1.1.2.2.2.2.1, r1.1.2.2.2.2.2.1, r1.1.2.2.2.2.2.2, x.2.2.2.2.2.2.2.2.2.2.2)
/-- soundservice/stream.end$1 -/
noncomputable def f223 (k : Nat) (x : (Int × Int × Int × Int × Int × Int × Int × Int × Int × Int × List (Int) × Int × Int × Int × Int × List (Int) × Int × Int × Int) × Int) : Option ((Int × Int × Int × Int × Int × Int × Int × Int × Int × Int × List (Int) × Int × Int × Int × Int × List (Int) × Int × Int × Int) × Int) :=
  Option.bind (f224 k (x.1.1, x.2, x.1.2.2)) fun r1 =>
  some (r1, x.2)
/-- soundservice/stream.rewind -/
noncomputable def f168 (k : Nat) (x : Int × Int × Int × Int × Int × Int × Int × Int × Int × Int × List (Int) × Int × Int × Int × Int × List (Int) × Int × Int × Int) : Option (Int × Int × Int × Int × Int × Int × Int × Int × Int × Int × List (Int) × Int × Int × Int × Int × List (Int) × Int × Int × Int) :=
  bif (x.2.1 == (2 : Int)) then
    Option.bind (f224 k (x.1, (1 : Int), x.2.2)) fun r1 =>
    some r1
  else
    Option.bind (f224 k x) fun r2 =>
    some r2
/-- slices.Index[[]int,int] -/
noncomputable def L163_2 (k : Nat) {R : Type} (K0 : Int → Option R) (K1 : Unit → Option R) (y : List (Int) × Int × Int × Int) (next : (List (Int) × Int × Int × Int) → Option R) : Option R :=
  bif (decide (y.2.2.2 < y.2.2.1)) then
    bif (decide (0 ≤ y.2.2.2) && decide (y.2.2.2 < ((y.1).length : Int))) then
      bif (y.2.1 == ((y.1).getD (y.2.2.2).toNat (0 : Int))) then
        K0 y.2.2.2
      else
        next (y.1, y.2.1, y.2.2.1, (IntKind.wrap .i64 (y.2.2.2 + (1 : Int))))
    else
      none
  else
    K1 ()
noncomputable def f163 (k : Nat) (x : List (Int) × Int) : Option (Int) :=
  loopC k (L163_2 k
    (fun z1 =>
      some z1)
    (fun z2 =>
      some (-1 : Int)))
    (x.1, x.2, (((x.1).length : Int)), (0 : Int))
/-- slices.Contains[[]int,int] -/
noncomputable def f95 (k : Nat) (x : List (Int) × Int) : Option (Bool) :=
  Option.bind (f163 k x) fun r1 =>
  some (decide (r1 ≥ (0 : Int)))
/-- soundservice/stream.own -/
noncomputable def f96 (k : Nat) (x : Int × Int × Int × Int × Int × Int × Int × Int × Int × Int × List (Int) × Int × Int × Int × Int × List (Int) × Int × Int × Int) : Option (Int × Int × Int × Int × Int × Int × Int × Int × Int × Int × List (Int) × Int × Int × Int × Int × List (Int) × Int × Int × Int) :=
  Option.bind (f169 k x.2.2.2.2.2.2.2.2.2.2.1) fun r1 =>
  Option.bind (f169 k x.2.2.2.2.2.2.2.2.2.2.2.2.2.2.2.1) fun r2 =>
  some (x.1, x.2.1, x.2.2.1, x.2.2.2.1, x.2.2.2.2.1, x.2.2.2.2.2.1, x.2.2.2.2.2.2.1, x.2.2.2.2.2.2.2.1, x.2.2.2.2.2.2.2.2.1, x.2.2.2.2.2.2.2.2.2.1, r1, x.2.2.2.2.2.2.2.2.2.2.2.1, x.2.2.2.2.2.2.2.2.2.2.2.2.1, x.2.2.2.2.2.2.2.2.2.2.2.2.2.1, x.2.2.2.2.2.2.2.2.2.2.2.2.2.2.1, r2, x.2.2.2.2.2.2.2.2.2.2.2.2.2.2.2.2)
/-- soundservice/stream.Do -/
noncomputable def f28_1 (k : Nat) (x : Int × Int × Int × Int × Int × Int × Int × Int × Int × Int × List (Int) × Int × Int × Int × Int × List (Int) × Int × Int × Int) : Option ((Int × Int × Int × Int × Int × Int × Int × Int × Int × Int × List (Int) × Int × Int × Int × Int × List (Int) × Int × Int × Int) × Int) :=
  Option.bind (f47 k x) fun r1 =>
  bif (!r1) then
    some (((0 : Int), (0 : Int), (0 : Int), (0 : Int), (0 : Int), (0 : Int), (0 : Int), (0 : Int), (0 : Int), (0 : Int), [], (0 : Int), (0 : Int), (0 : Int), (0 : Int), [], (0 : Int), (0 : Int), (0 : Int)), (1 : Int))
  else
    Option.bind (f95 k ([(1 : Int), (2 : Int)], x.2.1)) fun r2 =>
    bif (!r2) then
      bif (!r2) then
        some (((0 : Int), (0 : Int), (0 : Int), (0 : Int), (0 : Int), (0 : Int), (0 : Int), (0 : Int), (0 : Int), (0 : Int), [], (0 : Int), (0 : Int), (0 : Int), (0 : Int), [], (0 : Int), (0 : Int), (0 : Int)), (9 : Int))
      else
      bif (x.2.1 == (2 : Int)) then
        bif (x.1 == (1 : Int)) then
          Option.bind (f49 k x) fun r3 =>
          bif (decide (r3 < x.2.2.2.1)) then
            some (((0 : Int), (0 : Int), (0 : Int), (0 : Int), (0 : Int), (0 : Int), (0 : Int), (0 : Int), (0 : Int), (0 : Int), [], (0 : Int), (0 : Int), (0 : Int), (0 : Int), [], (0 : Int), (0 : Int), (0 : Int)), (4 : Int))
          else
            Option.bind (f96 k x) fun r4 =>
            Option.bind (f222 k (r4, (3 : Int))) fun r5 =>
            some (r5.1, (0 : Int))
        else
          Option.bind (f96 k x) fun r6 =>
          Option.bind (f222 k (r6, (3 : Int))) fun r7 =>
          some (r7.1, (0 : Int))
      else
        Option.bind (f96 k x) fun r8 =>
        Option.bind (f222 k (r8, (3 : Int))) fun r9 =>
        some (r9.1, (0 : Int))
    else
    bif (x.2.1 == (1 : Int)) then
      bif (x.1 == (1 : Int)) then
        bif (decide (x.2.2.2.1 > (0 : Int))) then
          some (((0 : Int), (0 : Int), (0 : Int), (0 : Int), (0 : Int), (0 : Int), (0 : Int), (0 : Int), (0 : Int), (0 : Int), [], (0 : Int), (0 : Int), (0 : Int), (0 : Int), [], (0 : Int), (0 : Int), (0 : Int)), (9 : Int))
        else
        bif (x.2.1 == (2 : Int)) then
          bif (x.1 == (1 : Int)) then
            Option.bind (f49 k x) fun r10 =>
            bif (decide (r10 < x.2.2.2.1)) then
              some (((0 : Int), (0 : Int), (0 : Int), (0 : Int), (0 : Int), (0 : Int), (0 : Int), (0 : Int), (0 : Int), (0 : Int), [], (0 : Int), (0 : Int), (0 : Int), (0 : Int), [], (0 : Int), (0 : Int), (0 : Int)), (4 : Int))
            else
              Option.bind (f96 k x) fun r11 =>
              Option.bind (f222 k (r11, (3 : Int))) fun r12 =>
              some (r12.1, (0 : Int))
          else
            Option.bind (f96 k x) fun r13 =>
            Option.bind (f222 k (r13, (3 : Int))) fun r14 =>
            some (r14.1, (0 : Int))
        else
          Option.bind (f96 k x) fun r15 =>
          Option.bind (f222 k (r15, (3 : Int))) fun r16 =>
          some (r16.1, (0 : Int))
      else
      bif (x.2.1 == (2 : Int)) then
        bif (x.1 == (1 : Int)) then
          Option.bind (f49 k x) fun r17 =>
          bif (decide (r17 < x.2.2.2.1)) then
            some (((0 : Int), (0 : Int), (0 : Int), (0 : Int), (0 : Int), (0 : Int), (0 : Int), (0 : Int), (0 : Int), (0 : Int), [], (0 : Int), (0 : Int), (0 : Int), (0 : Int), [], (0 : Int), (0 : Int), (0 : Int)), (4 : Int))
          else
            Option.bind (f96 k x) fun r18 =>
            Option.bind (f222 k (r18, (3 : Int))) fun r19 =>
            some (r19.1, (0 : Int))
        else
          Option.bind (f96 k x) fun r20 =>
          Option.bind (f222 k (r20, (3 : Int))) fun r21 =>
          some (r21.1, (0 : Int))
      else
        Option.bind (f96 k x) fun r22 =>
        Option.bind (f222 k (r22, (3 : Int))) fun r23 =>
        some (r23.1, (0 : Int))
    else
    bif (x.2.1 == (2 : Int)) then
      bif (x.1 == (1 : Int)) then
        Option.bind (f49 k x) fun r24 =>
        bif (decide (r24 < x.2.2.2.1)) then
          some (((0 : Int), (0 : Int), (0 : Int), (0 : Int), (0 : Int), (0 : Int), (0 : Int), (0 : Int), (0 : Int), (0 : Int), [], (0 : Int), (0 : Int), (0 : Int), (0 : Int), [], (0 : Int), (0 : Int), (0 : Int)), (4 : Int))
        else
          Option.bind (f96 k x) fun r25 =>
          Option.bind (f222 k (r25, (3 : Int))) fun r26 =>
          some (r26.1, (0 : Int))
      else
        Option.bind (f96 k x) fun r27 =>
        Option.bind (f222 k (r27, (3 : Int))) fun r28 =>
        some (r28.1, (0 : Int))
    else
      Option.bind (f96 k x) fun r29 =>
      Option.bind (f222 k (r29, (3 : Int))) fun r30 =>
      some (r30.1, (0 : Int))
noncomputable def f28_2 (k : Nat) (x : Int × Int × Int × Int × Int × Int × Int × Int × Int × Int × List (Int) × Int × Int × Int × Int × List (Int) × Int × Int × Int) : Option ((Int × Int × Int × Int × Int × Int × Int × Int × Int × Int × List (Int) × Int × Int × Int × Int × List (Int) × Int × Int × Int) × Int) :=
  Option.bind (f47 k x) fun r1 =>
  bif (!r1) then
    some (((0 : Int), (0 : Int), (0 : Int), (0 : Int), (0 : Int), (0 : Int), (0 : Int), (0 : Int), (0 : Int), (0 : Int), [], (0 : Int), (0 : Int), (0 : Int), (0 : Int), [], (0 : Int), (0 : Int), (0 : Int)), (1 : Int))
  else
    Option.bind (f95 k ([(3 : Int)], x.2.1)) fun r2 =>
    bif (!r2) then
      bif (!r2) then
        some (((0 : Int), (0 : Int), (0 : Int), (0 : Int), (0 : Int), (0 : Int), (0 : Int), (0 : Int), (0 : Int), (0 : Int), [], (0 : Int), (0 : Int), (0 : Int), (0 : Int), [], (0 : Int), (0 : Int), (0 : Int)), (9 : Int))
      else
        Option.bind (f96 k x) fun r3 =>
        Option.bind (f222 k (r3, (4 : Int))) fun r4 =>
        some (r4.1, (0 : Int))
    else
      Option.bind (f96 k x) fun r5 =>
      Option.bind (f222 k (r5, (4 : Int))) fun r6 =>
      some (r6.1, (0 : Int))
noncomputable def f28_3 (k : Nat) (x : Int × Int × Int × Int × Int × Int × Int × Int × Int × Int × List (Int) × Int × Int × Int × Int × List (Int) × Int × Int × Int) : Option ((Int × Int × Int × Int × Int × Int × Int × Int × Int × Int × List (Int) × Int × Int × Int × Int × List (Int) × Int × Int × Int) × Int) :=
  Option.bind (f47 k x) fun r1 =>
  bif (!r1) then
    some (((0 : Int), (0 : Int), (0 : Int), (0 : Int), (0 : Int), (0 : Int), (0 : Int), (0 : Int), (0 : Int), (0 : Int), [], (0 : Int), (0 : Int), (0 : Int), (0 : Int), [], (0 : Int), (0 : Int), (0 : Int)), (1 : Int))
  else
    Option.bind (f95 k ([(4 : Int)], x.2.1)) fun r2 =>
    bif (!r2) then
      bif (!r2) then
        some (((0 : Int), (0 : Int), (0 : Int), (0 : Int), (0 : Int), (0 : Int), (0 : Int), (0 : Int), (0 : Int), (0 : Int), [], (0 : Int), (0 : Int), (0 : Int), (0 : Int), [], (0 : Int), (0 : Int), (0 : Int)), (9 : Int))
      else
        Option.bind (f96 k x) fun r3 =>
        Option.bind (f222 k (r3, (3 : Int))) fun r4 =>
        some (r4.1, (0 : Int))
    else
      Option.bind (f96 k x) fun r5 =>
      Option.bind (f222 k (r5, (3 : Int))) fun r6 =>
      some (r6.1, (0 : Int))
noncomputable def f28_4 (k : Nat) (x : Int × Int × Int × Int × Int × Int × Int × Int × Int × Int × List (Int) × Int × Int × Int × Int × List (Int) × Int × Int × Int) : Option ((Int × Int × Int × Int × Int × Int × Int × Int × Int × Int × List (Int) × Int × Int × Int × Int × List (Int) × Int × Int × Int) × Int) :=
  Option.bind (f47 k x) fun r1 =>
  bif (!r1) then
    some (((0 : Int), (0 : Int), (0 : Int), (0 : Int), (0 : Int), (0 : Int), (0 : Int), (0 : Int), (0 : Int), (0 : Int), [], (0 : Int), (0 : Int), (0 : Int), (0 : Int), [], (0 : Int), (0 : Int), (0 : Int)), (1 : Int))
  else
    Option.bind (f95 k ([(2 : Int), (3 : Int), (4 : Int)], x.2.1)) fun r2 =>
    bif (!r2) then
      bif (!r2) then
        some (((0 : Int), (0 : Int), (0 : Int), (0 : Int), (0 : Int), (0 : Int), (0 : Int), (0 : Int), (0 : Int), (0 : Int), [], (0 : Int), (0 : Int), (0 : Int), (0 : Int), [], (0 : Int), (0 : Int), (0 : Int)), (9 : Int))
      else
        Option.bind (f96 k x) fun r3 =>
        Option.bind (f222 k (r3, (5 : Int))) fun r4 =>
        some (r4.1, (0 : Int))
    else
    bif (!(x.1 == (1 : Int))) then
      bif (!(x.1 == (1 : Int))) then
        some (((0 : Int), (0 : Int), (0 : Int), (0 : Int), (0 : Int), (0 : Int), (0 : Int), (0 : Int), (0 : Int), (0 : Int), [], (0 : Int), (0 : Int), (0 : Int), (0 : Int), [], (0 : Int), (0 : Int), (0 : Int)), (9 : Int))
      else
        Option.bind (f96 k x) fun r5 =>
        Option.bind (f222 k (r5, (5 : Int))) fun r6 =>
        some (r6.1, (0 : Int))
    else
      Option.bind (f96 k x) fun r7 =>
      Option.bind (f222 k (r7, (5 : Int))) fun r8 =>
      some (r8.1, (0 : Int))
noncomputable def f28_5 (k : Nat) (x : Int × Int × Int × Int × Int × Int × Int × Int × Int × Int × List (Int) × Int × Int × Int × Int × List (Int) × Int × Int × Int) : Option ((Int × Int × Int × Int × Int × Int × Int × Int × Int × Int × List (Int) × Int × Int × Int × Int × List (Int) × Int × Int × Int) × Int) :=
  Option.bind (f47 k x) fun r1 =>
  bif (!r1) then
    some (((0 : Int), (0 : Int), (0 : Int), (0 : Int), (0 : Int), (0 : Int), (0 : Int), (0 : Int), (0 : Int), (0 : Int), [], (0 : Int), (0 : Int), (0 : Int), (0 : Int), [], (0 : Int), (0 : Int), (0 : Int)), (1 : Int))
  else
    Option.bind (f95 k ([(1 : Int), (2 : Int), (3 : Int), (4 : Int), (5 : Int)], x.2.1)) fun r2 =>
    bif (!r2) then
      bif (!r2) then
        some (((0 : Int), (0 : Int), (0 : Int), (0 : Int), (0 : Int), (0 : Int), (0 : Int), (0 : Int), (0 : Int), (0 : Int), [], (0 : Int), (0 : Int), (0 : Int), (0 : Int), [], (0 : Int), (0 : Int), (0 : Int)), (9 : Int))
      else
        Option.bind (f96 k x) fun r3 =>
        Option.bind (f223 k (r3, (6 : Int))) fun r4 =>
        some (r4.1, (0 : Int))
    else
      Option.bind (f96 k x) fun r5 =>
      Option.bind (f223 k (r5, (6 : Int))) fun r6 =>
      some (r6.1, (0 : Int))
noncomputable def f28_6 (k : Nat) (x : Int × Int × Int × Int × Int × Int × Int × Int × Int × Int × List (Int) × Int × Int × Int × Int × List (Int) × Int × Int × Int) : Option ((Int × Int × Int × Int × Int × Int × Int × Int × Int × Int × List (Int) × Int × Int × Int × Int × List (Int) × Int × Int × Int) × Int) :=
  Option.bind (f47 k x) fun r1 =>
  bif (!r1) then
    some (((0 : Int), (0 : Int), (0 : Int), (0 : Int), (0 : Int), (0 : Int), (0 : Int), (0 : Int), (0 : Int), (0 : Int), [], (0 : Int), (0 : Int), (0 : Int), (0 : Int), [], (0 : Int), (0 : Int), (0 : Int)), (1 : Int))
  else
    Option.bind (f95 k ([(1 : Int), (2 : Int), (3 : Int), (4 : Int), (5 : Int), (6 : Int)], x.2.1)) fun r2 =>
    bif (!r2) then
      bif (!r2) then
        some (((0 : Int), (0 : Int), (0 : Int), (0 : Int), (0 : Int), (0 : Int), (0 : Int), (0 : Int), (0 : Int), (0 : Int), [], (0 : Int), (0 : Int), (0 : Int), (0 : Int), [], (0 : Int), (0 : Int), (0 : Int)), (9 : Int))
      else
        Option.bind (f96 k x) fun r3 =>
        Option.bind (f223 k (r3, (7 : Int))) fun r4 =>
        some (r4.1, (0 : Int))
    else
      Option.bind (f96 k x) fun r5 =>
      Option.bind (f223 k (r5, (7 : Int))) fun r6 =>
      some (r6.1, (0 : Int))
noncomputable def f28_7 (k : Nat) (x : Int × Int × Int × Int × Int × Int × Int × Int × Int × Int × List (Int) × Int × Int × Int × Int × List (Int) × Int × Int × Int) : Option ((Int × Int × Int × Int × Int × Int × Int × Int × Int × Int × List (Int) × Int × Int × Int × Int × List (Int) × Int × Int × Int) × Int) :=
  Option.bind (f47 k x) fun r1 =>
  bif (!r1) then
    some (((0 : Int), (0 : Int), (0 : Int), (0 : Int), (0 : Int), (0 : Int), (0 : Int), (0 : Int), (0 : Int), (0 : Int), [], (0 : Int), (0 : Int), (0 : Int), (0 : Int), [], (0 : Int), (0 : Int), (0 : Int)), (1 : Int))
  else
    Option.bind (f95 k ([(1 : Int), (2 : Int), (3 : Int), (4 : Int)], x.2.1)) fun r2 =>
    bif (!r2) then
      bif (!r2) then
        some (((0 : Int), (0 : Int), (0 : Int), (0 : Int), (0 : Int), (0 : Int), (0 : Int), (0 : Int), (0 : Int), (0 : Int), [], (0 : Int), (0 : Int), (0 : Int), (0 : Int), [], (0 : Int), (0 : Int), (0 : Int)), (9 : Int))
      else
        Option.bind (f96 k x) fun r3 =>
        Option.bind (f168 k r3) fun r4 =>
        some (r4, (0 : Int))
    else
      Option.bind (f96 k x) fun r5 =>
      Option.bind (f168 k r5) fun r6 =>
      some (r6, (0 : Int))
noncomputable def f28_0 (k : Nat) (x : (Int × Int × Int × Int × Int × Int × Int × Int × Int × Int × List (Int) × Int × Int × Int × Int × List (Int) × Int × Int × Int) × Int) : Option ((Int × Int × Int × Int × Int × Int × Int × Int × Int × Int × List (Int) × Int × Int × Int × Int × List (Int) × Int × Int × Int) × Int) :=
  Option.bind (f47 k x.1) fun r1 =>
  bif (!r1) then
    some (((0 : Int), (0 : Int), (0 : Int), (0 : Int), (0 : Int), (0 : Int), (0 : Int), (0 : Int), (0 : Int), (0 : Int), [], (0 : Int), (0 : Int), (0 : Int), (0 : Int), [], (0 : Int), (0 : Int), (0 : Int)), (1 : Int))
  else
    some (((0 : Int), (0 : Int), (0 : Int), (0 : Int), (0 : Int), (0 : Int), (0 : Int), (0 : Int), (0 : Int), (0 : Int), [], (0 : Int), (0 : Int), (0 : Int), (0 : Int), [], (0 : Int), (0 : Int), (0 : Int)), (1 : Int))
noncomputable def f28 (k : Nat) (x : (Int × Int × Int × Int × Int × Int × Int × Int × Int × Int × List (Int) × Int × Int × Int × Int × List (Int) × Int × Int × Int) × Int) : Option ((Int × Int × Int × Int × Int × Int × Int × Int × Int × Int × List (Int) × Int × Int × Int × Int × List (Int) × Int × Int × Int) × Int) :=
  bif x.2 == (1 : Int) then f28_1 k x.1 else bif x.2 == (2 : Int) then f28_2 k x.1 else bif x.2 == (3 : Int) then f28_3 k x.1 else bif x.2 == (4 : Int) then f28_4 k x.1 else bif x.2 == (5 : Int) then f28_5 k x.1 else bif x.2 == (6 : Int) then f28_6 k x.1 else bif x.2 == (7 : Int) then f28_7 k x.1 else f28_0 k x
/-- soundservice/phase.Make$1 -/
noncomputable def f175 (k : Nat) (x : Int × (Int × Int × Int × Int × Int) × Int) : Option (Bool × (Int × Int × Int × Int × Int) × Int) :=
  Option.bind (f172 k (x.2.1, (IntKind.wrap .i64 (x.1 + (1 : Int))))) fun r1 =>
  some ((decide (r1 > x.2.2)), x.2)
/-- sort.Search -/
noncomputable def L174_2 (k : Nat) {R : Type} (K0 : (Int × (Int × Int × Int × Int × Int) × Int) → Option R) (y : Int × Int × (Int × Int × Int × Int × Int) × Int) (next : (Int × Int × (Int × Int × Int × Int × Int) × Int) → Option R) : Option R :=
  bif (decide (y.1 < y.2.1)) then
    Option.bind (f175 k ((IntKind.wrap .i64 (Int.fdiv (IntKind.wrap .u64 (IntKind.wrap .i64 (y.1 + y.2.1))) (2 ^ (min (Int.toNat (1 : Int)) (IntKind.bits .u64))))), y.2.2)) fun r1 =>
    bif (!r1.1) then
      next ((IntKind.wrap .i64 ((IntKind.wrap .i64 (Int.fdiv (IntKind.wrap .u64 (IntKind.wrap .i64 (y.1 + y.2.1))) (2 ^ (min (Int.toNat (1 : Int)) (IntKind.bits .u64))))) + (1 : Int))), y.2.1, r1.2)
    else
      next (y.1, (IntKind.wrap .i64 (Int.fdiv (IntKind.wrap .u64 (IntKind.wrap .i64 (y.1 + y.2.1))) (2 ^ (min (Int.toNat (1 : Int)) (IntKind.bits .u64))))), r1.2)
  else
    K0 (y.1, y.2.2)
noncomputable def f174 (k : Nat) (x : Int × (Int × Int × Int × Int × Int) × Int) : Option (Int × (Int × Int × Int × Int × Int) × Int) :=
  loopC k (L174_2 k
    (fun z2 =>
      some z2))
    ((0 : Int), x)
/-- soundservice/phase.Make -/
noncomputable def f102 (k : Nat) (x : (Int × Int × Int × Int × Int) × Int) : Option (Int × Int) :=
  Option.bind (f173 k x.1) fun r1 =>
  bif (!r1) then
    some ((0 : Int), (1 : Int))
  else
  bif (decide (x.2 < (0 : Int))) then
    some ((0 : Int), (2 : Int))
  else
  bif (decide (x.2 > (1099511627776 : Int))) then
    some ((0 : Int), (2 : Int))
  else
    Option.bind (f174 k ((65536 : Int), x)) fun r2 =>
    some (r2.1, (0 : Int))
/-- soundservice/resample.check -/
noncomputable def f176 (k : Nat) (x : (Int × Int × Int × Int × Int × Int × List (Int)) × Int) : Option (Int) :=
  Option.bind (f123 k x.1) fun r1 =>
  bif (!r1) then
    some (1 : Int)
  else
  bif (decide (x.2 < (0 : Int))) then
    some (2 : Int)
  else
  bif (decide (x.2 > (65536 : Int))) then
    some (2 : Int)
  else
    some (0 : Int)
/-- soundservice/phase.At -/
noncomputable def f230 (k : Nat) (x : (Int × Int × Int × Int × Int) × Int) : Option (Int × Int × Int) :=
  Option.bind (f171 k x) fun r1 =>
  bif (r1 != (0 : Int)) then
    some ((0 : Int), (0 : Int), r1)
  else
    Option.bind (f225 k x) fun r2 =>
    Option.bind (f226 k x.1) fun r3 =>
    bif (r3 == 0) then
      none
    else
      Option.bind (f226 k x.1) fun r4 =>
      bif (r4 == 0) then
        none
      else
        some ((IntKind.wrap .i64 (x.1.2.2.2.1 + (IntKind.wrap .i64 (Int.tdiv r2 r3)))), (Int.tmod r2 r4), (0 : Int))
/-- soundservice/phase.Advance -/
noncomputable def f229 (k : Nat) (x : (Int × Int × Int × Int × Int) × Int) : Option ((Int × Int × Int × Int × Int) × Int) :=
  Option.bind (f230 k x) fun r1 =>
  bif (r1.2.2 == (0 : Int)) then
    bif (decide (r1.1 > (1125899906842624 : Int))) then
      bif ((2 : Int) != (0 : Int)) then
        some (((0 : Int), (0 : Int), (0 : Int), (0 : Int), (0 : Int)), (2 : Int))
      else
        some ((x.1.1, x.1.2.1, x.1.2.2.1, r1.1, r1.2.1), (0 : Int))
    else
    bif (r1.2.2 != (0 : Int)) then
      some (((0 : Int), (0 : Int), (0 : Int), (0 : Int), (0 : Int)), r1.2.2)
    else
      some ((x.1.1, x.1.2.1, x.1.2.2.1, r1.1, r1.2.1), (0 : Int))
  else
  bif (r1.2.2 != (0 : Int)) then
    some (((0 : Int), (0 : Int), (0 : Int), (0 : Int), (0 : Int)), r1.2.2)
  else
    some ((x.1.1, x.1.2.1, x.1.2.2.1, r1.1, r1.2.1), (0 : Int))
/-- soundservice/resample.frame -/
noncomputable def f231 (k : Nat) (x : (Int × Int × Int × Int × Int × Int × List (Int)) × Int) : Option (List (Int)) :=
  bif (decide (0 ≤ (if (IntKind.wrap .i64 ((((x.1.2.2.2.2.2.2).length : Int)) - x.1.1)) < (IntKind.wrap .i64 (x.2 * x.1.1)) then (IntKind.wrap .i64 ((((x.1.2.2.2.2.2.2).length : Int)) - x.1.1)) else (IntKind.wrap .i64 (x.2 * x.1.1)))) && decide ((if (IntKind.wrap .i64 ((((x.1.2.2.2.2.2.2).length : Int)) - x.1.1)) < (IntKind.wrap .i64 (x.2 * x.1.1)) then (IntKind.wrap .i64 ((((x.1.2.2.2.2.2.2).length : Int)) - x.1.1)) else (IntKind.wrap .i64 (x.2 * x.1.1))) ≤ (IntKind.wrap .i64 ((if (IntKind.wrap .i64 ((((x.1.2.2.2.2.2.2).length : Int)) - x.1.1)) < (IntKind.wrap .i64 (x.2 * x.1.1)) then (IntKind.wrap .i64 ((((x.1.2.2.2.2.2.2).length : Int)) - x.1.1)) else (IntKind.wrap .i64 (x.2 * x.1.1))) + x.1.1))) && decide ((IntKind.wrap .i64 ((if (IntKind.wrap .i64 ((((x.1.2.2.2.2.2.2).length : Int)) - x.1.1)) < (IntKind.wrap .i64 (x.2 * x.1.1)) then (IntKind.wrap .i64 ((((x.1.2.2.2.2.2.2).length : Int)) - x.1.1)) else (IntKind.wrap .i64 (x.2 * x.1.1))) + x.1.1)) ≤ (IntKind.wrap .i64 ((if (IntKind.wrap .i64 ((((x.1.2.2.2.2.2.2).length : Int)) - x.1.1)) < (IntKind.wrap .i64 (x.2 * x.1.1)) then (IntKind.wrap .i64 ((((x.1.2.2.2.2.2.2).length : Int)) - x.1.1)) else (IntKind.wrap .i64 (x.2 * x.1.1))) + x.1.1))) && decide ((IntKind.wrap .i64 ((if (IntKind.wrap .i64 ((((x.1.2.2.2.2.2.2).length : Int)) - x.1.1)) < (IntKind.wrap .i64 (x.2 * x.1.1)) then (IntKind.wrap .i64 ((((x.1.2.2.2.2.2.2).length : Int)) - x.1.1)) else (IntKind.wrap .i64 (x.2 * x.1.1))) + x.1.1)) ≤ (((x.1.2.2.2.2.2.2).length : Int)))) then
    some (((x.1.2.2.2.2.2.2).take ((IntKind.wrap .i64 ((if (IntKind.wrap .i64 ((((x.1.2.2.2.2.2.2).length : Int)) - x.1.1)) < (IntKind.wrap .i64 (x.2 * x.1.1)) then (IntKind.wrap .i64 ((((x.1.2.2.2.2.2.2).length : Int)) - x.1.1)) else (IntKind.wrap .i64 (x.2 * x.1.1))) + x.1.1))).toNat).drop ((if (IntKind.wrap .i64 ((((x.1.2.2.2.2.2.2).length : Int)) - x.1.1)) < (IntKind.wrap .i64 (x.2 * x.1.1)) then (IntKind.wrap .i64 ((((x.1.2.2.2.2.2.2).length : Int)) - x.1.1)) else (IntKind.wrap .i64 (x.2 * x.1.1)))).toNat)
  else
    none
/-- soundservice/resample.produce -/
noncomputable def L177_13 (k : Nat) {R : Type} (K0 : (Int × Int × Int × (Int × Int × Int × Int × Int × Int × List (Int)) × Int × (Int × Int × Int × Int × Int × Int) × (Int × Int × Int × Int × Int) × Int × List (Int)) → Option R) (y : Int × Int × List (Int) × List (Int) × Int × Int × Int × Int × (Int × Int × Int × Int × Int × Int × List (Int)) × Int × (Int × Int × Int × Int × Int × Int) × (Int × Int × Int × Int × Int) × Int × List (Int)) (next : (Int × Int × List (Int) × List (Int) × Int × Int × Int × Int × (Int × Int × Int × Int × Int × Int × List (Int)) × Int × (Int × Int × Int × Int × Int × Int) × (Int × Int × Int × Int × Int) × Int × List (Int)) → Option R) : Option R :=
  bif (decide (y.2.2.2.2.2.2.2.1 < y.2.2.2.2.2.2.1)) then
    bif (decide (0 ≤ y.2.2.2.2.2.2.2.1) && decide (y.2.2.2.2.2.2.2.1 < ((y.2.2.1).length : Int))) then
      bif (decide (0 ≤ y.2.2.2.2.2.2.2.1) && decide (y.2.2.2.2.2.2.2.1 < ((y.2.2.2.1).length : Int))) then
        bif (y.1 == 0) then
          none
        else
        bif (y.1 == 0) then
          none
        else
        bif (decide ((Int.tmod (IntKind.wrap .i64 ((IntKind.wrap .i64 ((IntKind.wrap .i64 ((IntKind.wrap .i64 ((y.2.2.1).getD (y.2.2.2.2.2.2.2.1).toNat (0 : Int))) * (IntKind.wrap .i64 (y.1 - y.2.1)))) + (IntKind.wrap .i64 ((IntKind.wrap .i64 ((y.2.2.2.1).getD (y.2.2.2.2.2.2.2.1).toNat (0 : Int))) * y.2.1)))) + (IntKind.wrap .i64 (Int.tdiv y.1 (2 : Int))))) y.1) < (0 : Int))) then
          bif (decide (((y.2.2.2.2.2.2.2.2.2.2.2.2.2).length + (([(IntKind.wrap .i32 (IntKind.wrap .i64 ((IntKind.wrap .i64 (Int.tdiv (IntKind.wrap .i64 ((IntKind.wrap .i64 ((IntKind.wrap .i64 ((IntKind.wrap .i64 ((y.2.2.1).getD (y.2.2.2.2.2.2.2.1).toNat (0 : Int))) * (IntKind.wrap .i64 (y.1 - y.2.1)))) + (IntKind.wrap .i64 ((IntKind.wrap .i64 ((y.2.2.2.1).getD (y.2.2.2.2.2.2.2.1).toNat (0 : Int))) * y.2.1)))) + (IntKind.wrap .i64 (Int.tdiv y.1 (2 : Int))))) y.1)) - (1 : Int))))])).length) * 4 ≤ maxBytes) && decide ((y.2.2.2.2.2.2.2.2.2.2.2.2.2).length + (([(IntKind.wrap .i32 (IntKind.wrap .i64 ((IntKind.wrap .i64 (Int.tdiv (IntKind.wrap .i64 ((IntKind.wrap .i64 ((IntKind.wrap .i64 ((IntKind.wrap .i64 ((y.2.2.1).getD (y.2.2.2.2.2.2.2.1).toNat (0 : Int))) * (IntKind.wrap .i64 (y.1 - y.2.1)))) + (IntKind.wrap .i64 ((IntKind.wrap .i64 ((y.2.2.2.1).getD (y.2.2.2.2.2.2.2.1).toNat (0 : Int))) * y.2.1)))) + (IntKind.wrap .i64 (Int.tdiv y.1 (2 : Int))))) y.1)) - (1 : Int))))])).length ≤ 9223372036854775807)) then
            next (y.1, y.2.1, y.2.2.1, y.2.2.2.1, y.2.2.2.2.1, y.2.2.2.2.2.1, y.2.2.2.2.2.2.1, (IntKind.wrap .i64 (y.2.2.2.2.2.2.2.1 + (1 : Int))), y.2.2.2.2.2.2.2.2.1, y.2.2.2.2.2.2.2.2.2.1, y.2.2.2.2.2.2.2.2.2.2.1, y.2.2.2.2.2.2.2.2.2.2.2.1, y.2.2.2.2.2.2.2.2.2.2.2.2.1, (y.2.2.2.2.2.2.2.2.2.2.2.2.2 ++ ([(IntKind.wrap .i32 (IntKind.wrap .i64 ((IntKind.wrap .i64 (Int.tdiv (IntKind.wrap .i64 ((IntKind.wrap .i64 ((IntKind.wrap .i64 ((IntKind.wrap .i64 ((y.2.2.1).getD (y.2.2.2.2.2.2.2.1).toNat (0 : Int))) * (IntKind.wrap .i64 (y.1 - y.2.1)))) + (IntKind.wrap .i64 ((IntKind.wrap .i64 ((y.2.2.2.1).getD (y.2.2.2.2.2.2.2.1).toNat (0 : Int))) * y.2.1)))) + (IntKind.wrap .i64 (Int.tdiv y.1 (2 : Int))))) y.1)) - (1 : Int))))])))
          else
            none
        else
        bif (decide (((y.2.2.2.2.2.2.2.2.2.2.2.2.2).length + (([(IntKind.wrap .i32 (IntKind.wrap .i64 (Int.tdiv (IntKind.wrap .i64 ((IntKind.wrap .i64 ((IntKind.wrap .i64 ((IntKind.wrap .i64 ((y.2.2.1).getD (y.2.2.2.2.2.2.2.1).toNat (0 : Int))) * (IntKind.wrap .i64 (y.1 - y.2.1)))) + (IntKind.wrap .i64 ((IntKind.wrap .i64 ((y.2.2.2.1).getD (y.2.2.2.2.2.2.2.1).toNat (0 : Int))) * y.2.1)))) + (IntKind.wrap .i64 (Int.tdiv y.1 (2 : Int))))) y.1)))])).length) * 4 ≤ maxBytes) && decide ((y.2.2.2.2.2.2.2.2.2.2.2.2.2).length + (([(IntKind.wrap .i32 (IntKind.wrap .i64 (Int.tdiv (IntKind.wrap .i64 ((IntKind.wrap .i64 ((IntKind.wrap .i64 ((IntKind.wrap .i64 ((y.2.2.1).getD (y.2.2.2.2.2.2.2.1).toNat (0 : Int))) * (IntKind.wrap .i64 (y.1 - y.2.1)))) + (IntKind.wrap .i64 ((IntKind.wrap .i64 ((y.2.2.2.1).getD (y.2.2.2.2.2.2.2.1).toNat (0 : Int))) * y.2.1)))) + (IntKind.wrap .i64 (Int.tdiv y.1 (2 : Int))))) y.1)))])).length ≤ 9223372036854775807)) then
          next (y.1, y.2.1, y.2.2.1, y.2.2.2.1, y.2.2.2.2.1, y.2.2.2.2.2.1, y.2.2.2.2.2.2.1, (IntKind.wrap .i64 (y.2.2.2.2.2.2.2.1 + (1 : Int))), y.2.2.2.2.2.2.2.2.1, y.2.2.2.2.2.2.2.2.2.1, y.2.2.2.2.2.2.2.2.2.2.1, y.2.2.2.2.2.2.2.2.2.2.2.1, y.2.2.2.2.2.2.2.2.2.2.2.2.1, (y.2.2.2.2.2.2.2.2.2.2.2.2.2 ++ ([(IntKind.wrap .i32 (IntKind.wrap .i64 (Int.tdiv (IntKind.wrap .i64 ((IntKind.wrap .i64 ((IntKind.wrap .i64 ((IntKind.wrap .i64 ((y.2.2.1).getD (y.2.2.2.2.2.2.2.1).toNat (0 : Int))) * (IntKind.wrap .i64 (y.1 - y.2.1)))) + (IntKind.wrap .i64 ((IntKind.wrap .i64 ((y.2.2.2.1).getD (y.2.2.2.2.2.2.2.1).toNat (0 : Int))) * y.2.1)))) + (IntKind.wrap .i64 (Int.tdiv y.1 (2 : Int))))) y.1)))])))
        else
          none
      else
        none
    else
      none
  else
    K0 (y.1, y.2.2.2.2.1, y.2.2.2.2.2.1, y.2.2.2.2.2.2.2.2)
noncomputable def L177_7 (k : Nat) {R : Type} (K0 : ((Int × Int × Int × Int × Int × Int × List (Int)) × Int × (Int × Int × Int × Int × Int × Int) × (Int × Int × Int × Int × Int) × Int × List (Int)) → Option R) (y : Int × Int × Int × (Int × Int × Int × Int × Int × Int × List (Int)) × Int × (Int × Int × Int × Int × Int × Int) × (Int × Int × Int × Int × Int) × Int × List (Int)) (next : (Int × Int × Int × (Int × Int × Int × Int × Int × Int × List (Int)) × Int × (Int × Int × Int × Int × Int × Int) × (Int × Int × Int × Int × Int) × Int × List (Int)) → Option R) : Option R :=
  bif (decide (y.2.2.1 < y.2.1)) then
    Option.bind (f230 k ((y.2.2.2.1.2.1, y.2.2.2.1.2.2.1, y.2.2.2.1.2.2.2.1, y.2.2.2.1.2.2.2.2.1, y.2.2.2.1.2.2.2.2.2.1), y.2.2.1)) fun r6 =>
    Option.bind (f231 k (y.2.2.2.1, (IntKind.wrap .i64 (r6.1 - y.2.2.2.1.2.2.2.2.1)))) fun r7 =>
    Option.bind (f231 k (y.2.2.2.1, (IntKind.wrap .i64 ((IntKind.wrap .i64 (r6.1 - y.2.2.2.1.2.2.2.2.1)) + (1 : Int))))) fun r8 =>
    loopC k (L177_13 k
      (fun z9 =>
        next (z9.1, z9.2.1, (IntKind.wrap .i64 (z9.2.2.1 + (1 : Int))), z9.2.2.2)))
      (y.1, r6.2.1, r7, r8, y.2.1, y.2.2.1, (((r7).length : Int)), (0 : Int), y.2.2.2)
  else
    K0 y.2.2.2
noncomputable def f177 (k : Nat) (x : (Int × Int × Int × Int × Int × Int × List (Int)) × Int) : Option ((Int × List (Int)) × (Int × Int × Int × Int × Int × Int × List (Int)) × Int) :=
  Option.bind (f229 k ((x.1.2.1, x.1.2.2.1, x.1.2.2.2.1, x.1.2.2.2.2.1, x.1.2.2.2.2.2.1), x.2)) fun r1 =>
  bif (r1.2 != (0 : Int)) then
    some (((0 : Int), []), ((0 : Int), (0 : Int), (0 : Int), (0 : Int), (0 : Int), (0 : Int), []), r1.2)
  else
  bif (decide (0 ≤ (0 : Int)) && decide ((0 : Int) ≤ (IntKind.wrap .i64 (x.2 * x.1.1))) && decide ((IntKind.wrap .i64 (x.2 * x.1.1)) * ((4 : Nat) : Int) ≤ (maxBytes : Int)) && true && true) then
    loopC k (L177_7 k
      (fun z10 =>
        bif (decide (0 ≤ (if (IntKind.wrap .i64 ((IntKind.wrap .i64 (z10.2.2.2.1.2.2.2.1 - z10.1.2.2.2.2.1)) * z10.1.1)) < (((z10.1.2.2.2.2.2.2).length : Int)) then (IntKind.wrap .i64 ((IntKind.wrap .i64 (z10.2.2.2.1.2.2.2.1 - z10.1.2.2.2.2.1)) * z10.1.1)) else (((z10.1.2.2.2.2.2.2).length : Int)))) && decide ((if (IntKind.wrap .i64 ((IntKind.wrap .i64 (z10.2.2.2.1.2.2.2.1 - z10.1.2.2.2.2.1)) * z10.1.1)) < (((z10.1.2.2.2.2.2.2).length : Int)) then (IntKind.wrap .i64 ((IntKind.wrap .i64 (z10.2.2.2.1.2.2.2.1 - z10.1.2.2.2.2.1)) * z10.1.1)) else (((z10.1.2.2.2.2.2.2).length : Int))) ≤ (((z10.1.2.2.2.2.2.2).length : Int))) && decide ((((z10.1.2.2.2.2.2.2).length : Int)) ≤ (((z10.1.2.2.2.2.2.2).length : Int))) && decide ((((z10.1.2.2.2.2.2.2).length : Int)) ≤ (((z10.1.2.2.2.2.2.2).length : Int)))) then
          Option.bind (f169 k (((z10.1.2.2.2.2.2.2).take ((((z10.1.2.2.2.2.2.2).length : Int))).toNat).drop ((if (IntKind.wrap .i64 ((IntKind.wrap .i64 (z10.2.2.2.1.2.2.2.1 - z10.1.2.2.2.2.1)) * z10.1.1)) < (((z10.1.2.2.2.2.2.2).length : Int)) then (IntKind.wrap .i64 ((IntKind.wrap .i64 (z10.2.2.2.1.2.2.2.1 - z10.1.2.2.2.2.1)) * z10.1.1)) else (((z10.1.2.2.2.2.2.2).length : Int)))).toNat)) fun r11 =>
          some (z10.2.2.2.2, (z10.1.1, z10.2.2.2.1.1, z10.2.2.2.1.2.1, z10.2.2.2.1.2.2.1, z10.2.2.2.1.2.2.2.1, z10.2.2.2.1.2.2.2.2, r11), (0 : Int))
        else
          none))
      ((IntKind.wrap .i64 (x.1.2.2.1 * (65536 : Int))), x.2, (0 : Int), x.1, (0 : Int), ((0 : Int), (0 : Int), (0 : Int), (0 : Int), (0 : Int), (0 : Int)), r1.1, x.1.1, (List.replicate ((0 : Int)).toNat (0 : Int)))
  else
    none
/-- soundservice/resample.Take -/
noncomputable def f103 (k : Nat) (x : (Int × Int × Int × Int × Int × Int × List (Int)) × Int) : Option ((Int × List (Int)) × (Int × Int × Int × Int × Int × Int × List (Int)) × Int) :=
  Option.bind (f176 k x) fun r1 =>
  bif (r1 != (0 : Int)) then
    some (((0 : Int), []), ((0 : Int), (0 : Int), (0 : Int), (0 : Int), (0 : Int), (0 : Int), []), r1)
  else
    Option.bind (f101 k ((x.1.2.1, x.1.2.2.1, x.1.2.2.2.1, x.1.2.2.2.2.1, x.1.2.2.2.2.2.1), x.2)) fun r2 =>
    bif (x.1.1 == 0) then
      none
    else
    bif (decide (r2.1 > (IntKind.wrap .i64 (Int.tdiv (((x.1.2.2.2.2.2.2).length : Int)) x.1.1)))) then
      some (((0 : Int), []), ((0 : Int), (0 : Int), (0 : Int), (0 : Int), (0 : Int), (0 : Int), []), (4 : Int))
    else
      Option.bind (f177 k x) fun r3 =>
      some r3
/-- soundservice/resample.Finish -/
noncomputable def f104 (k : Nat) (x : (Int × Int × Int × Int × Int × Int × List (Int)) × Int) : Option ((Int × List (Int)) × (Int × Int × Int × Int × Int × Int × List (Int)) × Int) :=
  Option.bind (f176 k x) fun r1 =>
  bif (r1 != (0 : Int)) then
    some (((0 : Int), []), ((0 : Int), (0 : Int), (0 : Int), (0 : Int), (0 : Int), (0 : Int), []), r1)
  else
  bif (x.1.1 == 0) then
    none
  else
  bif (decide ((IntKind.wrap .i64 ((IntKind.wrap .i64 ((IntKind.wrap .i64 (Int.tdiv (((x.1.2.2.2.2.2.2).length : Int)) x.1.1)) * (IntKind.wrap .i64 (x.1.2.2.1 * (65536 : Int))))) - x.1.2.2.2.2.2.1)) > (0 : Int))) then
    bif ((IntKind.wrap .i64 (x.1.2.1 * (IntKind.wrap .i64 ((65536 : Int) + x.1.2.2.2.1)))) == 0) then
      none
    else
      Option.bind (f177 k (x.1, (if (IntKind.wrap .i64 (Int.tdiv (IntKind.wrap .i64 ((IntKind.wrap .i64 ((IntKind.wrap .i64 ((IntKind.wrap .i64 ((IntKind.wrap .i64 (Int.tdiv (((x.1.2.2.2.2.2.2).length : Int)) x.1.1)) * (IntKind.wrap .i64 (x.1.2.2.1 * (65536 : Int))))) - x.1.2.2.2.2.2.1)) + (IntKind.wrap .i64 (x.1.2.1 * (IntKind.wrap .i64 ((65536 : Int) + x.1.2.2.2.1)))))) - (1 : Int))) (IntKind.wrap .i64 (x.1.2.1 * (IntKind.wrap .i64 ((65536 : Int) + x.1.2.2.2.1)))))) < x.2 then (IntKind.wrap .i64 (Int.tdiv (IntKind.wrap .i64 ((IntKind.wrap .i64 ((IntKind.wrap .i64 ((IntKind.wrap .i64 ((IntKind.wrap .i64 (Int.tdiv (((x.1.2.2.2.2.2.2).length : Int)) x.1.1)) * (IntKind.wrap .i64 (x.1.2.2.1 * (65536 : Int))))) - x.1.2.2.2.2.2.1)) + (IntKind.wrap .i64 (x.1.2.1 * (IntKind.wrap .i64 ((65536 : Int) + x.1.2.2.2.1)))))) - (1 : Int))) (IntKind.wrap .i64 (x.1.2.1 * (IntKind.wrap .i64 ((65536 : Int) + x.1.2.2.2.1)))))) else x.2))) fun r2 =>
      some r2
  else
    Option.bind (f177 k (x.1, (0 : Int))) fun r3 =>
    some r3
/-- soundservice/sample.Silence -/
noncomputable def f105 (k : Nat) (x : Int × Int) : Option ((Int × List (Int)) × Int) :=
  bif (decide (x.1 < (1 : Int))) then
    some (((0 : Int), []), (2 : Int))
  else
  bif (decide (x.1 > (8 : Int))) then
    some (((0 : Int), []), (2 : Int))
  else
  bif (decide (x.2 < (0 : Int))) then
    some (((0 : Int), []), (2 : Int))
  else
  bif (decide (x.2 > (65536 : Int))) then
    some (((0 : Int), []), (2 : Int))
  else
  bif (decide (0 ≤ (IntKind.wrap .i64 (x.1 * x.2))) && decide ((IntKind.wrap .i64 (x.1 * x.2)) ≤ (IntKind.wrap .i64 (x.1 * x.2))) && decide ((IntKind.wrap .i64 (x.1 * x.2)) * ((4 : Nat) : Int) ≤ (maxBytes : Int)) && true && true) then
    some ((x.1, (List.replicate ((IntKind.wrap .i64 (x.1 * x.2))).toNat (0 : Int))), (0 : Int))
  else
    none
/-- soundservice/stream.Take -/
noncomputable def f33 (k : Nat) (x : (Int × Int × Int × Int × Int × Int × Int × Int × Int × Int × List (Int) × Int × Int × Int × Int × List (Int) × Int × Int × Int) × Int) : Option ((Int × List (Int)) × Int × (Int × Int × Int × Int × Int × Int × Int × Int × Int × Int × List (Int) × Int × Int × Int × Int × List (Int) × Int × Int × Int) × Int) :=
  Option.bind (f91 k (x.1, (1 : Int))) fun r1 =>
  bif (!r1) then
    some (((0 : Int), []), (0 : Int), ((0 : Int), (0 : Int), (0 : Int), (0 : Int), (0 : Int), (0 : Int), (0 : Int), (0 : Int), (0 : Int), (0 : Int), [], (0 : Int), (0 : Int), (0 : Int), (0 : Int), [], (0 : Int), (0 : Int), (0 : Int)), (1 : Int))
  else
    Option.bind (f100 k x.2) fun r2 =>
    bif r2 then
      some (((0 : Int), []), (0 : Int), ((0 : Int), (0 : Int), (0 : Int), (0 : Int), (0 : Int), (0 : Int), (0 : Int), (0 : Int), (0 : Int), (0 : Int), [], (0 : Int), (0 : Int), (0 : Int), (0 : Int), [], (0 : Int), (0 : Int), (0 : Int)), (2 : Int))
    else
    bif (x.1.2.1 == (3 : Int)) then
      Option.bind (f49 k x.1) fun r3 =>
      Option.bind (f102 k ((x.1.2.2.2.2.2.1, x.1.2.2.2.2.2.2.1, x.1.2.2.2.2.2.2.2.1, x.1.2.2.2.2.2.2.2.2.1, x.1.2.2.2.2.2.2.2.2.2.1), r3)) fun r4 =>
      Option.bind (f103 k ((x.1.2.2.2.2.1, x.1.2.2.2.2.2.1, x.1.2.2.2.2.2.2.1, x.1.2.2.2.2.2.2.2.1, x.1.2.2.2.2.2.2.2.2.1, x.1.2.2.2.2.2.2.2.2.2.1, x.1.2.2.2.2.2.2.2.2.2.2.1), (if x.2 < r4.1 then x.2 else r4.1))) fun r5 =>
      bif (r5.2.2 != (0 : Int)) then
        some (((0 : Int), []), (0 : Int), ((0 : Int), (0 : Int), (0 : Int), (0 : Int), (0 : Int), (0 : Int), (0 : Int), (0 : Int), (0 : Int), (0 : Int), [], (0 : Int), (0 : Int), (0 : Int), (0 : Int), [], (0 : Int), (0 : Int), (0 : Int)), r5.2.2)
      else
      bif (decide (0 ≤ (padCount r5.1.1 x.2 (List.length r5.1.2))) && decide ((List.length r5.1.2 + ((padCount r5.1.1 x.2 (List.length r5.1.2))).toNat) * 4 ≤ maxBytes)) then
        some ((r5.1.1, (r5.1.2 ++ List.replicate ((padCount r5.1.1 x.2 (List.length r5.1.2))).toNat (0 : Int))), (IntKind.wrap .i64 (x.2 - (if x.2 < r4.1 then x.2 else r4.1))), (x.1.1, x.1.2.1, x.1.2.2.1, x.1.2.2.2.1, r5.2.1.1, r5.2.1.2.1, r5.2.1.2.2.1, r5.2.1.2.2.2.1, r5.2.1.2.2.2.2.1, r5.2.1.2.2.2.2.2.1, r5.2.1.2.2.2.2.2.2, x.1.2.2.2.2.2.2.2.2.2.2.2.1, x.1.2.2.2.2.2.2.2.2.2.2.2.2.1, x.1.2.2.2.2.2.2.2.2.2.2.2.2.2.1, x.1.2.2.2.2.2.2.2.2.2.2.2.2.2.2.1, x.1.2.2.2.2.2.2.2.2.2.2.2.2.2.2.2.1, x.1.2.2.2.2.2.2.2.2.2.2.2.2.2.2.2.2.1, (IntKind.wrap .i64 (x.1.2.2.2.2.2.2.2.2.2.2.2.2.2.2.2.2.2.1 + x.2)), (IntKind.wrap .i64 (x.1.2.2.2.2.2.2.2.2.2.2.2.2.2.2.2.2.2.2 + (IntKind.wrap .i64 (x.2 - (if x.2 < r4.1 then x.2 else r4.1)))))), (0 : Int))
      else
        none
    else
    bif (x.1.2.1 == (5 : Int)) then
      Option.bind (f104 k ((x.1.2.2.2.2.1, x.1.2.2.2.2.2.1, x.1.2.2.2.2.2.2.1, x.1.2.2.2.2.2.2.2.1, x.1.2.2.2.2.2.2.2.2.1, x.1.2.2.2.2.2.2.2.2.2.1, x.1.2.2.2.2.2.2.2.2.2.2.1), x.2)) fun r6 =>
      bif ((((r6.2.1.2.2.2.2.2.2).length : Int)) == (0 : Int)) then
        bif (r6.2.2 != (0 : Int)) then
          some (((0 : Int), []), (0 : Int), ((0 : Int), (0 : Int), (0 : Int), (0 : Int), (0 : Int), (0 : Int), (0 : Int), (0 : Int), (0 : Int), (0 : Int), [], (0 : Int), (0 : Int), (0 : Int), (0 : Int), [], (0 : Int), (0 : Int), (0 : Int)), r6.2.2)
        else
        bif (decide (0 ≤ (padCount r6.1.1 x.2 (List.length r6.1.2))) && decide ((List.length r6.1.2 + ((padCount r6.1.1 x.2 (List.length r6.1.2))).toNat) * 4 ≤ maxBytes)) then
          some ((r6.1.1, (r6.1.2 ++ List.replicate ((padCount r6.1.1 x.2 (List.length r6.1.2))).toNat (0 : Int))), (0 : Int), (x.1.1, (6 : Int), x.1.2.2.1, x.1.2.2.2.1, r6.2.1.1, r6.2.1.2.1, r6.2.1.2.2.1, r6.2.1.2.2.2.1, r6.2.1.2.2.2.2.1, r6.2.1.2.2.2.2.2.1, r6.2.1.2.2.2.2.2.2, x.1.2.2.2.2.2.2.2.2.2.2.2.1, x.1.2.2.2.2.2.2.2.2.2.2.2.2.1, x.1.2.2.2.2.2.2.2.2.2.2.2.2.2.1, x.1.2.2.2.2.2.2.2.2.2.2.2.2.2.2.1, x.1.2.2.2.2.2.2.2.2.2.2.2.2.2.2.2.1, x.1.2.2.2.2.2.2.2.2.2.2.2.2.2.2.2.2.1, (IntKind.wrap .i64 (x.1.2.2.2.2.2.2.2.2.2.2.2.2.2.2.2.2.2.1 + x.2)), (IntKind.wrap .i64 (x.1.2.2.2.2.2.2.2.2.2.2.2.2.2.2.2.2.2.2 + (0 : Int)))), (0 : Int))
        else
          none
      else
      bif (r6.2.2 != (0 : Int)) then
        some (((0 : Int), []), (0 : Int), ((0 : Int), (0 : Int), (0 : Int), (0 : Int), (0 : Int), (0 : Int), (0 : Int), (0 : Int), (0 : Int), (0 : Int), [], (0 : Int), (0 : Int), (0 : Int), (0 : Int), [], (0 : Int), (0 : Int), (0 : Int)), r6.2.2)
      else
      bif (decide (0 ≤ (padCount r6.1.1 x.2 (List.length r6.1.2))) && decide ((List.length r6.1.2 + ((padCount r6.1.1 x.2 (List.length r6.1.2))).toNat) * 4 ≤ maxBytes)) then
        some ((r6.1.1, (r6.1.2 ++ List.replicate ((padCount r6.1.1 x.2 (List.length r6.1.2))).toNat (0 : Int))), (0 : Int), (x.1.1, x.1.2.1, x.1.2.2.1, x.1.2.2.2.1, r6.2.1.1, r6.2.1.2.1, r6.2.1.2.2.1, r6.2.1.2.2.2.1, r6.2.1.2.2.2.2.1, r6.2.1.2.2.2.2.2.1, r6.2.1.2.2.2.2.2.2, x.1.2.2.2.2.2.2.2.2.2.2.2.1, x.1.2.2.2.2.2.2.2.2.2.2.2.2.1, x.1.2.2.2.2.2.2.2.2.2.2.2.2.2.1, x.1.2.2.2.2.2.2.2.2.2.2.2.2.2.2.1, x.1.2.2.2.2.2.2.2.2.2.2.2.2.2.2.2.1, x.1.2.2.2.2.2.2.2.2.2.2.2.2.2.2.2.2.1, (IntKind.wrap .i64 (x.1.2.2.2.2.2.2.2.2.2.2.2.2.2.2.2.2.2.1 + x.2)), (IntKind.wrap .i64 (x.1.2.2.2.2.2.2.2.2.2.2.2.2.2.2.2.2.2.2 + (0 : Int)))), (0 : Int))
      else
        none
    else
      Option.bind (f105 k (x.1.2.2.2.2.1, x.2)) fun r7 =>
      Option.bind (f96 k x.1) fun r8 =>
      some (r7.1, (0 : Int), r8, (0 : Int))
/-- soundservice/soundservicelaw20.sane -/
noncomputable def f43 (k : Nat) (x : Unit) : Option (Bool) :=
  Option.bind (f15 k ((1 : Int), (1 : Int), ((1 : Int), (1 : Int)), (10 : Int), (2 : Int))) fun r1 =>
  Option.bind (f55 k ((1 : Int), (1 : Int), (0 : Int), (5 : Int))) fun r2 =>
  Option.bind (f27 k (r1.1, r2)) fun r3 =>
  Option.bind (f32 k (r3.1, (4 : Int))) fun r4 =>
  Option.bind (f32 k (r3.1, (5 : Int))) fun r5 =>
  Option.bind (f28 k (r3.1, (1 : Int))) fun r6 =>
  Option.bind (f33 k (r6.1, (4 : Int))) fun r7 =>
  bif (r1.2 == (0 : Int)) then
    bif (r3.2 == (0 : Int)) then
      bif (r4.2 == (0 : Int)) then
        bif (r5.2 == (0 : Int)) then
          bif (r6.2 == (0 : Int)) then
            bif (r7.2.2.2 == (0 : Int)) then
              bif (r4.1 == (0 : Int)) then
                bif (r5.1 == (1 : Int)) then
                  bif (r3.1.2.1 == (2 : Int)) then
                    bif (r6.1.2.1 == (3 : Int)) then
                      bif (r7.2.1 == (0 : Int)) then
                        bif ((((r7.1.2).length : Int)) == (4 : Int)) then
                          bif (r7.2.2.1.2.2.2.2.2.2.2.2.2.2.2.2.2.2.2.2.2.1 == (4 : Int)) then
                            Option.bind (f49 k r7.2.2.1) fun r8 =>
                            bif (r8 == (1 : Int)) then
                              Option.bind (f51 k r7.2.2.1) fun r9 =>
                              bif (r9 == (9 : Int)) then
                                Option.bind (f47 k r7.2.2.1) fun r10 =>
                                some r10
                              else
                                some false
                            else
                              some false
                          else
                            some false
                        else
                          some false
                      else
                        some false
                    else
                      some false
                  else
                    some false
                else
                  some false
              else
                some false
            else
              some false
          else
            some false
        else
          some false
      else
        some false
    else
      some false
  else
    some false
/-- soundservice/soundservicekeep.Stream -/
noncomputable def f44 (k : Nat) (x : (Int × Int × Int × Int × Int × Int × Int × Int × Int × Int × List (Int) × Int × Int × Int × Int × List (Int) × Int × Int × Int) × Int) : Option (Bool) :=
  bif (decide ((((x.1.2.2.2.2.2.2.2.2.2.2.1).length : Int)) ≤ x.2)) then
    some (decide ((((x.1.2.2.2.2.2.2.2.2.2.2.2.2.2.2.2.1).length : Int)) ≤ x.2))
  else
    some false
/-- soundservice/soundservicemade.New -/
noncomputable def f12 (k : Nat) (x : List (Int)) : Option (List (Int)) :=
  bif (decide (0 ≤ (0 : Int)) && decide ((0 : Int) ≤ (if (300 : Int) < (((x).length : Int)) then (300 : Int) else (((x).length : Int)))) && decide ((if (300 : Int) < (((x).length : Int)) then (300 : Int) else (((x).length : Int))) ≤ (if (300 : Int) < (((x).length : Int)) then (300 : Int) else (((x).length : Int)))) && decide ((if (300 : Int) < (((x).length : Int)) then (300 : Int) else (((x).length : Int))) ≤ (((x).length : Int)))) then
    some (((x).take ((if (300 : Int) < (((x).length : Int)) then (300 : Int) else (((x).length : Int)))).toNat).drop ((0 : Int)).toNat)
  else
    none
/-- (*soundservice/soundservicemade.Dice).Next -/
noncomputable def f13 (k : Nat) (x : List (Int) × Int) : Option (Int × List (Int)) :=
  bif ((((x.1).length : Int)) == (0 : Int)) then
    some ((0 : Int), x.1)
  else
  bif (decide (x.2 ≤ (1 : Int))) then
    some ((0 : Int), x.1)
  else
  bif (decide (0 ≤ (0 : Int)) && decide ((0 : Int) < ((x.1).length : Int))) then
    bif (decide (0 ≤ (1 : Int)) && decide ((1 : Int) ≤ (((x.1).length : Int))) && decide ((((x.1).length : Int)) ≤ (((x.1).length : Int))) && decide ((((x.1).length : Int)) ≤ (((x.1).length : Int)))) then
      bif (x.2 == 0) then
        none
      else
        some ((Int.tmod (IntKind.wrap .i64 ((x.1).getD ((0 : Int)).toNat (0 : Int))) x.2), (((x.1).take ((((x.1).length : Int))).toNat).drop ((1 : Int)).toNat))
    else
      none
  else
    none
/-- soundservice/soundserviceref03.gcd -/
noncomputable def L149_1 (k : Nat) {R : Type} (K0 : Int → Option R) (y : Int × Int) (next : (Int × Int) → Option R) : Option R :=
  bif (y.2 != (0 : Int)) then
    bif (y.2 == 0) then
      none
    else
      next (y.2, (Int.tmod y.1 y.2))
  else
    K0 y.1
noncomputable def f149 (k : Nat) (x : Int × Int) : Option (Int) :=
  loopC k (L149_1 k
    (fun z1 =>
      some z1))
    x
/-- soundservice/soundserviceref03.Make -/
noncomputable def f79 (k : Nat) (x : Int × Int) : Option ((Int × Int) × Int) :=
  bif (decide (x.1 < (1 : Int))) then
    some (((0 : Int), (0 : Int)), (1 : Int))
  else
  bif (decide (x.2 < (1 : Int))) then
    some (((0 : Int), (0 : Int)), (1 : Int))
  else
    Option.bind (f149 k x) fun r1 =>
    bif (r1 == 0) then
      none
    else
    bif (r1 == 0) then
      none
    else
    bif (decide ((IntKind.wrap .i64 (Int.tdiv x.1 r1)) > (68719476736 : Int))) then
      some (((0 : Int), (0 : Int)), (2 : Int))
    else
    bif (decide ((IntKind.wrap .i64 (Int.tdiv x.2 r1)) > (68719476736 : Int))) then
      some (((0 : Int), (0 : Int)), (2 : Int))
    else
      some (((IntKind.wrap .i64 (Int.tdiv x.1 r1)), (IntKind.wrap .i64 (Int.tdiv x.2 r1))), (0 : Int))
/-- soundservice/soundservicemade.Base -/
noncomputable def f66 (k : Nat) (x : List (Int)) : Option ((Int × Int) × List (Int)) :=
  Option.bind (f13 k (x, (10 : Int))) fun r1 =>
  bif (decide (0 ≤ r1.1) && decide (r1.1 < ((([(48000 : Int), (48000 : Int), (44100 : Int), (96000 : Int), (8000 : Int), (32000 : Int), (192000 : Int), (1000 : Int), (768000 : Int), (47999 : Int)])).length : Int))) then
    Option.bind (f13 k (r1.2, (10 : Int))) fun r2 =>
    bif (decide (0 ≤ r2.1) && decide (r2.1 < ((([(48000 : Int), (48000 : Int), (44100 : Int), (96000 : Int), (8000 : Int), (32000 : Int), (192000 : Int), (1000 : Int), (768000 : Int), (47999 : Int)])).length : Int))) then
      Option.bind (f79 k (((([(48000 : Int), (48000 : Int), (44100 : Int), (96000 : Int), (8000 : Int), (32000 : Int), (192000 : Int), (1000 : Int), (768000 : Int), (47999 : Int)])).getD (r1.1).toNat (0 : Int)), ((([(48000 : Int), (48000 : Int), (44100 : Int), (96000 : Int), (8000 : Int), (32000 : Int), (192000 : Int), (1000 : Int), (768000 : Int), (47999 : Int)])).getD (r2.1).toNat (0 : Int)))) fun r3 =>
      some (r3.1, r2.2)
    else
      none
  else
    none
/-- soundservice/soundserviceref03.Valid -/
noncomputable def f240 (k : Nat) (x : Int × Int) : Option (Bool) :=
  bif (decide (x.1 ≥ (1 : Int))) then
    bif (decide (x.2 ≥ (1 : Int))) then
      bif (decide (x.1 ≤ (68719476736 : Int))) then
        bif (decide (x.2 ≤ (68719476736 : Int))) then
          Option.bind (f149 k x) fun r1 =>
          some (r1 == (1 : Int))
        else
          some false
      else
        some false
    else
      some false
  else
    some false
/-- soundservice/soundserviceref14.Parts -/
noncomputable def f241 (k : Nat) (x : Int × Int × Int × Int × Int) : Option (Int) :=
  some (IntKind.wrap .i64 (x.2.1 * (65536 : Int)))
/-- soundservice/soundserviceref14.Valid -/
noncomputable def f193 (k : Nat) (x : Int × Int × Int × Int × Int) : Option (Bool) :=
  Option.bind (f240 k (x.1, x.2.1)) fun r1 =>
  bif r1 then
    bif (decide (x.1 ≤ (768000 : Int))) then
      bif (decide (x.2.1 ≤ (768000 : Int))) then
        bif (decide (x.2.2.1 ≥ (-4096 : Int))) then
          bif (decide (x.2.2.1 ≤ (4096 : Int))) then
            bif (decide (x.2.2.2.1 ≥ (0 : Int))) then
              bif (decide (x.2.2.2.1 ≤ (1125899906842624 : Int))) then
                bif (decide (x.2.2.2.2 ≥ (0 : Int))) then
                  Option.bind (f241 k x) fun r2 =>
                  some (decide (x.2.2.2.2 < r2))
                else
                  some false
              else
                some false
            else
              some false
          else
            some false
        else
          some false
      else
        some false
    else
      some false
  else
    some false
/-- soundservice/soundserviceref15.block -/
noncomputable def f194 (k : Nat) (x : Int × Int × Int × Int × Int × Int × List (Int)) : Option (Int × List (Int)) :=
  some (x.1, x.2.2.2.2.2.2)
/-- soundservice/soundserviceref04.sample -/
noncomputable def f89 (k : Nat) (x : Int) : Option (Bool) :=
  bif (decide (x ≥ (-8388608 : Int))) then
    some (decide (x ≤ (8388607 : Int)))
  else
    some false
/-- soundservice/soundserviceref04.Valid -/
noncomputable def L25_4 (k : Nat) {R : Type} (K0 : Bool → Option R) (K1 : Unit → Option R) (y : List (Int) × Int × Int) (next : (List (Int) × Int × Int) → Option R) : Option R :=
  bif (decide (y.2.2 < y.2.1)) then
    bif (decide (0 ≤ y.2.2) && decide (y.2.2 < ((y.1).length : Int))) then
      Option.bind (f89 k ((y.1).getD (y.2.2).toNat (0 : Int))) fun r1 =>
      bif (!r1) then
        K0 false
      else
        next (y.1, y.2.1, (IntKind.wrap .i64 (y.2.2 + (1 : Int))))
    else
      none
  else
    K1 ()
noncomputable def f25 (k : Nat) (x : Int × List (Int)) : Option (Bool) :=
  bif (decide (x.1 < (1 : Int))) then
    some false
  else
  bif (decide (x.1 > (8 : Int))) then
    some false
  else
  bif (x.1 == 0) then
    none
  else
  bif ((Int.tmod (((x.2).length : Int)) x.1) != (0 : Int)) then
    some false
  else
  bif (x.1 == 0) then
    none
  else
  bif (decide ((IntKind.wrap .i64 (Int.tdiv (((x.2).length : Int)) x.1)) > (65536 : Int))) then
    some false
  else
    loopC k (L25_4 k
      (fun z2 =>
        some z2)
      (fun z3 =>
        some true))
      (x.2, (((x.2).length : Int)), (0 : Int))
/-- soundservice/soundserviceref15.Valid -/
noncomputable def f112 (k : Nat) (x : Int × Int × Int × Int × Int × Int × List (Int)) : Option (Bool) :=
  Option.bind (f193 k (x.2.1, x.2.2.1, x.2.2.2.1, x.2.2.2.2.1, x.2.2.2.2.2.1)) fun r1 =>
  bif r1 then
    Option.bind (f194 k x) fun r2 =>
    Option.bind (f25 k r2) fun r3 =>
    some r3
  else
    some false
/-- soundservice/soundserviceref15.New -/
noncomputable def f37 (k : Nat) (x : Int × Int × Int) : Option ((Int × Int × Int × Int × Int × Int × List (Int)) × Int) :=
  Option.bind (f112 k (x.1, x.2.1, x.2.2, (0 : Int), (0 : Int), (0 : Int), [])) fun r1 =>
  bif (!r1) then
    some (((0 : Int), (0 : Int), (0 : Int), (0 : Int), (0 : Int), (0 : Int), []), (1 : Int))
  else
    some ((x.1, x.2.1, x.2.2, (0 : Int), (0 : Int), (0 : Int), []), (0 : Int))
/-- soundservice/soundserviceref17.block -/
noncomputable def f199 (k : Nat) (x : Int × Int × Int × Int × List (Int)) : Option (Int × List (Int)) :=
  some (x.1, x.2.2.2.2)
/-- soundservice/soundserviceref17.Valid -/
noncomputable def f127 (k : Nat) (x : Int × Int × Int × Int × List (Int)) : Option (Bool) :=
  bif (decide (x.2.1 ≥ (1 : Int))) then
    bif (decide (x.2.1 ≤ (65536 : Int))) then
      bif (decide (x.2.2.2.1 ≥ (0 : Int))) then
        bif (decide (x.2.2.2.1 ≤ x.2.2.1)) then
          bif (decide (x.2.2.1 ≤ (1125899906842624 : Int))) then
            Option.bind (f199 k x) fun r1 =>
            Option.bind (f25 k r1) fun r2 =>
            bif r2 then
              bif (x.1 == 0) then
                none
              else
              bif ((IntKind.wrap .i64 (Int.tdiv (((x.2.2.2.2).length : Int)) x.1)) == (IntKind.wrap .i64 (x.2.2.1 - x.2.2.2.1))) then
                some (decide ((IntKind.wrap .i64 (x.2.2.1 - x.2.2.2.1)) ≤ x.2.1))
              else
                some false
            else
              some false
          else
            some false
        else
          some false
      else
        some false
    else
      some false
  else
    some false
/-- soundservice/soundserviceref17.New -/
noncomputable def f130 (k : Nat) (x : Int × Int) : Option ((Int × Int × Int × Int × List (Int)) × Int) :=
  Option.bind (f127 k (x.1, x.2, (0 : Int), (0 : Int), [])) fun r1 =>
  bif (!r1) then
    some (((0 : Int), (0 : Int), (0 : Int), (0 : Int), []), (2 : Int))
  else
    some ((x.1, x.2, (0 : Int), (0 : Int), []), (0 : Int))
/-- soundservice/soundserviceref15.Waiting -/
noncomputable def f115 (k : Nat) (x : Int × Int × Int × Int × Int × Int × List (Int)) : Option (Int) :=
  Option.bind (f112 k x) fun r1 =>
  bif (!r1) then
    some (0 : Int)
  else
  bif (x.1 == 0) then
    none
  else
    some (IntKind.wrap .i64 (Int.tdiv (((x.2.2.2.2.2.2).length : Int)) x.1))
/-- soundservice/soundserviceref04.SameData -/
noncomputable def L71_4 (k : Nat) {R : Type} (K0 : Bool → Option R) (K1 : Unit → Option R) (y : List (Int) × List (Int) × Int × Int) (next : (List (Int) × List (Int) × Int × Int) → Option R) : Option R :=
  bif (decide (y.2.2.2 < y.2.2.1)) then
    bif (decide (0 ≤ y.2.2.2) && decide (y.2.2.2 < ((y.1).length : Int))) then
      bif (decide (0 ≤ y.2.2.2) && decide (y.2.2.2 < ((y.2.1).length : Int))) then
        bif (((y.1).getD (y.2.2.2).toNat (0 : Int)) != ((y.2.1).getD (y.2.2.2).toNat (0 : Int))) then
          K0 false
        else
          next (y.1, y.2.1, y.2.2.1, (IntKind.wrap .i64 (y.2.2.2 + (1 : Int))))
      else
        none
    else
      none
  else
    K1 ()
noncomputable def f71 (k : Nat) (x : List (Int) × List (Int)) : Option (Bool) :=
  bif ((((x.1).length : Int)) != (((x.2).length : Int))) then
    some false
  else
    loopC k (L71_4 k
      (fun z1 =>
        some z1)
      (fun z2 =>
        some true))
      (x.1, x.2, (((x.1).length : Int)), (0 : Int))
/-- soundservice/soundserviceref17.Same -/
noncomputable def f126 (k : Nat) (x : (Int × Int × Int × Int × List (Int)) × Int × Int × Int × Int × List (Int)) : Option (Bool) :=
  bif (x.1.1 == x.2.1) then
    bif (x.1.2.1 == x.2.2.1) then
      bif (x.1.2.2.1 == x.2.2.2.1) then
        bif (x.1.2.2.2.1 == x.2.2.2.2.1) then
          Option.bind (f71 k (x.1.2.2.2.2, x.2.2.2.2.2)) fun r1 =>
          some r1
        else
          some false
      else
        some false
    else
      some false
  else
    some false
/-- soundservice/soundserviceref20.Valid -/
noncomputable def f48 (k : Nat) (x : Int × Int × Int × Int × Int × Int × Int × Int × Int × Int × List (Int) × Int × Int × Int × Int × List (Int) × Int × Int × Int) : Option (Bool) :=
  bif (decide (x.2.1 < (1 : Int))) then
    some false
  else
  bif (decide (x.2.1 > (7 : Int))) then
    some false
  else
  bif (decide (x.2.2.1 < (1 : Int))) then
    some false
  else
  bif (decide (x.2.2.1 > (65536 : Int))) then
    some false
  else
  bif (decide (x.2.2.2.1 < (0 : Int))) then
    some false
  else
  bif (decide (x.2.2.2.1 > x.2.2.1)) then
    some false
  else
    Option.bind (f112 k (x.2.2.2.2.1, x.2.2.2.2.2.1, x.2.2.2.2.2.2.1, x.2.2.2.2.2.2.2.1, x.2.2.2.2.2.2.2.2.1, x.2.2.2.2.2.2.2.2.2.1, x.2.2.2.2.2.2.2.2.2.2.1)) fun r1 =>
    bif (!r1) then
      some false
    else
    bif (x.2.2.2.2.2.2.2.1 != (0 : Int)) then
      some false
    else
    bif (decide (x.2.2.2.2.2.2.2.2.2.2.2.2.2.2.2.2.1 < (0 : Int))) then
      some false
    else
    bif (decide (x.2.2.2.2.2.2.2.2.2.2.2.2.2.2.2.2.2.1 < (0 : Int))) then
      some false
    else
    bif (decide (x.2.2.2.2.2.2.2.2.2.2.2.2.2.2.2.2.2.2 < (0 : Int))) then
      some false
    else
    bif (x.1 == (1 : Int)) then
      Option.bind (f115 k (x.2.2.2.2.1, x.2.2.2.2.2.1, x.2.2.2.2.2.2.1, x.2.2.2.2.2.2.2.1, x.2.2.2.2.2.2.2.2.1, x.2.2.2.2.2.2.2.2.2.1, x.2.2.2.2.2.2.2.2.2.2.1)) fun r2 =>
      bif (decide (r2 ≤ x.2.2.1)) then
        Option.bind (f126 k ((x.2.2.2.2.2.2.2.2.2.2.2.1, x.2.2.2.2.2.2.2.2.2.2.2.2.1, x.2.2.2.2.2.2.2.2.2.2.2.2.2.1, x.2.2.2.2.2.2.2.2.2.2.2.2.2.2.1, x.2.2.2.2.2.2.2.2.2.2.2.2.2.2.2.1), (0 : Int), (0 : Int), (0 : Int), (0 : Int), [])) fun r3 =>
        some r3
      else
        some false
    else
    bif (x.1 == (2 : Int)) then
      Option.bind (f127 k (x.2.2.2.2.2.2.2.2.2.2.2.1, x.2.2.2.2.2.2.2.2.2.2.2.2.1, x.2.2.2.2.2.2.2.2.2.2.2.2.2.1, x.2.2.2.2.2.2.2.2.2.2.2.2.2.2.1, x.2.2.2.2.2.2.2.2.2.2.2.2.2.2.2.1)) fun r4 =>
      bif r4 then
        bif (x.2.2.2.2.2.2.2.2.2.2.2.2.1 == x.2.2.1) then
          some (x.2.2.2.2.2.2.2.2.2.2.2.1 == x.2.2.2.2.1)
        else
          some false
      else
        some false
    else
      some false
/-- soundservice/soundserviceref20.New -/
noncomputable def f53 (k : Nat) (x : Int × Int × (Int × Int) × Int × Int) : Option ((Int × Int × Int × Int × Int × Int × Int × Int × Int × Int × List (Int) × Int × Int × Int × Int × List (Int) × Int × Int × Int) × Int) :=
  Option.bind (f37 k (x.2.1, x.2.2.1)) fun r1 =>
  bif (x.1 == (2 : Int)) then
    Option.bind (f130 k (x.2.1, x.2.2.2.1)) fun r2 =>
    Option.bind (f48 k (x.1, (1 : Int), x.2.2.2.1, x.2.2.2.2, r1.1.1, r1.1.2.1, r1.1.2.2.1, r1.1.2.2.2.1, r1.1.2.2.2.2.1, r1.1.2.2.2.2.2.1, r1.1.2.2.2.2.2.2, r2.1.1, r2.1.2.1, r2.1.2.2.1, r2.1.2.2.2.1, r2.1.2.2.2.2, (0 : Int), (0 : Int), (0 : Int))) fun r3 =>
    bif (!r3) then
      some (((0 : Int), (0 : Int), (0 : Int), (0 : Int), (0 : Int), (0 : Int), (0 : Int), (0 : Int), (0 : Int), (0 : Int), [], (0 : Int), (0 : Int), (0 : Int), (0 : Int), [], (0 : Int), (0 : Int), (0 : Int)), (1 : Int))
    else
      some ((x.1, (1 : Int), x.2.2.2.1, x.2.2.2.2, r1.1.1, r1.1.2.1, r1.1.2.2.1, r1.1.2.2.2.1, r1.1.2.2.2.2.1, r1.1.2.2.2.2.2.1, r1.1.2.2.2.2.2.2, r2.1.1, r2.1.2.1, r2.1.2.2.1, r2.1.2.2.2.1, r2.1.2.2.2.2, (0 : Int), (0 : Int), (0 : Int)), (0 : Int))
  else
    Option.bind (f48 k (x.1, (1 : Int), x.2.2.2.1, x.2.2.2.2, r1.1.1, r1.1.2.1, r1.1.2.2.1, r1.1.2.2.2.1, r1.1.2.2.2.2.1, r1.1.2.2.2.2.2.1, r1.1.2.2.2.2.2.2, (0 : Int), (0 : Int), (0 : Int), (0 : Int), [], (0 : Int), (0 : Int), (0 : Int))) fun r4 =>
    bif (!r4) then
      some (((0 : Int), (0 : Int), (0 : Int), (0 : Int), (0 : Int), (0 : Int), (0 : Int), (0 : Int), (0 : Int), (0 : Int), [], (0 : Int), (0 : Int), (0 : Int), (0 : Int), [], (0 : Int), (0 : Int), (0 : Int)), (1 : Int))
    else
      some ((x.1, (1 : Int), x.2.2.2.1, x.2.2.2.2, r1.1.1, r1.1.2.1, r1.1.2.2.1, r1.1.2.2.2.1, r1.1.2.2.2.2.1, r1.1.2.2.2.2.2.1, r1.1.2.2.2.2.2.2, (0 : Int), (0 : Int), (0 : Int), (0 : Int), [], (0 : Int), (0 : Int), (0 : Int)), (0 : Int))
/-- soundservice/soundserviceref20.plays -/
noncomputable def f121 (k : Nat) (x : Int × Int × Int × Int × Int × Int × Int × Int × Int × Int × List (Int) × Int × Int × Int × Int × List (Int) × Int × Int × Int) : Option (Bool) :=
  Option.bind (f48 k x) fun r1 =>
  bif r1 then
    some (x.1 == (1 : Int))
  else
    some false
/-- soundservice/soundserviceref04.Frames -/
noncomputable def f42 (k : Nat) (x : Int × List (Int)) : Option (Int) :=
  Option.bind (f25 k x) fun r1 =>
  bif (!r1) then
    some (0 : Int)
  else
  bif (x.1 == 0) then
    none
  else
    some (IntKind.wrap .i64 (Int.tdiv (((x.2).length : Int)) x.1))
/-- soundservice/soundserviceref17.Fill -/
noncomputable def f129 (k : Nat) (x : Int × Int × Int × Int × List (Int)) : Option (Int) :=
  Option.bind (f127 k x) fun r1 =>
  bif (!r1) then
    some (0 : Int)
  else
    some (IntKind.wrap .i64 (x.2.2.1 - x.2.2.2.1))
/-- soundservice/soundserviceref20.Waiting -/
noncomputable def f50 (k : Nat) (x : Int × Int × Int × Int × Int × Int × Int × Int × Int × Int × List (Int) × Int × Int × Int × Int × List (Int) × Int × Int × Int) : Option (Int) :=
  Option.bind (f48 k x) fun r1 =>
  bif (!r1) then
    some (0 : Int)
  else
  bif (x.1 == (1 : Int)) then
    Option.bind (f115 k (x.2.2.2.2.1, x.2.2.2.2.2.1, x.2.2.2.2.2.2.1, x.2.2.2.2.2.2.2.1, x.2.2.2.2.2.2.2.2.1, x.2.2.2.2.2.2.2.2.2.1, x.2.2.2.2.2.2.2.2.2.2.1)) fun r2 =>
    some r2
  else
    Option.bind (f129 k (x.2.2.2.2.2.2.2.2.2.2.2.1, x.2.2.2.2.2.2.2.2.2.2.2.2.1, x.2.2.2.2.2.2.2.2.2.2.2.2.2.1, x.2.2.2.2.2.2.2.2.2.2.2.2.2.2.1, x.2.2.2.2.2.2.2.2.2.2.2.2.2.2.2.1)) fun r3 =>
    some r3
/-- soundservice/soundserviceref20.Room -/
noncomputable def f52 (k : Nat) (x : Int × Int × Int × Int × Int × Int × Int × Int × Int × Int × List (Int) × Int × Int × Int × Int × List (Int) × Int × Int × Int) : Option (Int) :=
  Option.bind (f48 k x) fun r1 =>
  bif (!r1) then
    some (0 : Int)
  else
    Option.bind (f50 k x) fun r2 =>
    some (IntKind.wrap .i64 (x.2.2.1 - r2))
/-- soundservice/soundserviceref15.Feed -/
noncomputable def f113 (k : Nat) (x : (Int × Int × Int × Int × Int × Int × List (Int)) × Int × List (Int)) : Option ((Int × Int × Int × Int × Int × Int × List (Int)) × Int) :=
  Option.bind (f112 k x.1) fun r1 =>
  bif (!r1) then
    some (((0 : Int), (0 : Int), (0 : Int), (0 : Int), (0 : Int), (0 : Int), []), (1 : Int))
  else
    Option.bind (f25 k x.2) fun r2 =>
    bif (!r2) then
      some (((0 : Int), (0 : Int), (0 : Int), (0 : Int), (0 : Int), (0 : Int), []), (1 : Int))
    else
    bif (x.2.1 != x.1.1) then
      some (((0 : Int), (0 : Int), (0 : Int), (0 : Int), (0 : Int), (0 : Int), []), (11 : Int))
    else
    bif (x.1.1 == 0) then
      none
    else
    bif (decide ((IntKind.wrap .i64 (Int.tdiv (IntKind.wrap .i64 ((((x.1.2.2.2.2.2.2).length : Int)) + (((x.2.2).length : Int)))) x.1.1)) > (65536 : Int))) then
      some (((0 : Int), (0 : Int), (0 : Int), (0 : Int), (0 : Int), (0 : Int), []), (3 : Int))
    else
    bif (decide ((x.1.2.2.2.2.2.2).length * 4 ≤ maxBytes) && decide ((x.1.2.2.2.2.2.2).length ≤ 9223372036854775807)) then
      bif (decide (((x.1.2.2.2.2.2.2).length + (x.2.2).length) * 4 ≤ maxBytes) && decide ((x.1.2.2.2.2.2.2).length + (x.2.2).length ≤ 9223372036854775807)) then
        some ((x.1.1, x.1.2.1, x.1.2.2.1, x.1.2.2.2.1, x.1.2.2.2.2.1, x.1.2.2.2.2.2.1, (x.1.2.2.2.2.2.2 ++ x.2.2)), (0 : Int))
      else
        none
    else
      none
/-- soundservice/soundserviceref20.Write -/
noncomputable def f57 (k : Nat) (x : (Int × Int × Int × Int × Int × Int × Int × Int × Int × Int × List (Int) × Int × Int × Int × Int × List (Int) × Int × Int × Int) × Int × List (Int)) : Option ((Int × Int × Int × Int × Int × Int × Int × Int × Int × Int × List (Int) × Int × Int × Int × Int × List (Int) × Int × Int × Int) × Int) :=
  Option.bind (f121 k x.1) fun r1 =>
  bif (!r1) then
    some (((0 : Int), (0 : Int), (0 : Int), (0 : Int), (0 : Int), (0 : Int), (0 : Int), (0 : Int), (0 : Int), (0 : Int), [], (0 : Int), (0 : Int), (0 : Int), (0 : Int), [], (0 : Int), (0 : Int), (0 : Int)), (1 : Int))
  else
    Option.bind (f25 k x.2) fun r2 =>
    bif (!r2) then
      some (((0 : Int), (0 : Int), (0 : Int), (0 : Int), (0 : Int), (0 : Int), (0 : Int), (0 : Int), (0 : Int), (0 : Int), [], (0 : Int), (0 : Int), (0 : Int), (0 : Int), [], (0 : Int), (0 : Int), (0 : Int)), (1 : Int))
    else
    bif (x.2.1 != x.1.2.2.2.2.1) then
      some (((0 : Int), (0 : Int), (0 : Int), (0 : Int), (0 : Int), (0 : Int), (0 : Int), (0 : Int), (0 : Int), (0 : Int), [], (0 : Int), (0 : Int), (0 : Int), (0 : Int), [], (0 : Int), (0 : Int), (0 : Int)), (11 : Int))
    else
    bif (decide (x.1.2.1 ≥ (5 : Int))) then
      some (((0 : Int), (0 : Int), (0 : Int), (0 : Int), (0 : Int), (0 : Int), (0 : Int), (0 : Int), (0 : Int), (0 : Int), [], (0 : Int), (0 : Int), (0 : Int), (0 : Int), [], (0 : Int), (0 : Int), (0 : Int)), (9 : Int))
    else
      Option.bind (f42 k x.2) fun r3 =>
      Option.bind (f52 k x.1) fun r4 =>
      bif (decide (r3 > r4)) then
        some (((0 : Int), (0 : Int), (0 : Int), (0 : Int), (0 : Int), (0 : Int), (0 : Int), (0 : Int), (0 : Int), (0 : Int), [], (0 : Int), (0 : Int), (0 : Int), (0 : Int), [], (0 : Int), (0 : Int), (0 : Int)), (10 : Int))
      else
        Option.bind (f113 k ((x.1.2.2.2.2.1, x.1.2.2.2.2.2.1, x.1.2.2.2.2.2.2.1, x.1.2.2.2.2.2.2.2.1, x.1.2.2.2.2.2.2.2.2.1, x.1.2.2.2.2.2.2.2.2.2.1, x.1.2.2.2.2.2.2.2.2.2.2.1), x.2)) fun r5 =>
        bif (r5.2 != (0 : Int)) then
          some (((0 : Int), (0 : Int), (0 : Int), (0 : Int), (0 : Int), (0 : Int), (0 : Int), (0 : Int), (0 : Int), (0 : Int), [], (0 : Int), (0 : Int), (0 : Int), (0 : Int), [], (0 : Int), (0 : Int), (0 : Int)), r5.2)
        else
        bif (x.1.2.1 == (1 : Int)) then
          Option.bind (f42 k x.2) fun r6 =>
          bif (decide (r6 > (0 : Int))) then
            Option.bind (f42 k x.2) fun r7 =>
            some ((x.1.1, (2 : Int), x.1.2.2.1, x.1.2.2.2.1, r5.1.1, r5.1.2.1, r5.1.2.2.1, r5.1.2.2.2.1, r5.1.2.2.2.2.1, r5.1.2.2.2.2.2.1, r5.1.2.2.2.2.2.2, x.1.2.2.2.2.2.2.2.2.2.2.2.1, x.1.2.2.2.2.2.2.2.2.2.2.2.2.1, x.1.2.2.2.2.2.2.2.2.2.2.2.2.2.1, x.1.2.2.2.2.2.2.2.2.2.2.2.2.2.2.1, x.1.2.2.2.2.2.2.2.2.2.2.2.2.2.2.2.1, (IntKind.wrap .i64 (x.1.2.2.2.2.2.2.2.2.2.2.2.2.2.2.2.2.1 + r7)), x.1.2.2.2.2.2.2.2.2.2.2.2.2.2.2.2.2.2), (0 : Int))
          else
            Option.bind (f42 k x.2) fun r8 =>
            some ((x.1.1, x.1.2.1, x.1.2.2.1, x.1.2.2.2.1, r5.1.1, r5.1.2.1, r5.1.2.2.1, r5.1.2.2.2.1, r5.1.2.2.2.2.1, r5.1.2.2.2.2.2.1, r5.1.2.2.2.2.2.2, x.1.2.2.2.2.2.2.2.2.2.2.2.1, x.1.2.2.2.2.2.2.2.2.2.2.2.2.1, x.1.2.2.2.2.2.2.2.2.2.2.2.2.2.1, x.1.2.2.2.2.2.2.2.2.2.2.2.2.2.2.1, x.1.2.2.2.2.2.2.2.2.2.2.2.2.2.2.2.1, (IntKind.wrap .i64 (x.1.2.2.2.2.2.2.2.2.2.2.2.2.2.2.2.2.1 + r8)), x.1.2.2.2.2.2.2.2.2.2.2.2.2.2.2.2.2.2), (0 : Int))
        else
          Option.bind (f42 k x.2) fun r9 =>
          some ((x.1.1, x.1.2.1, x.1.2.2.1, x.1.2.2.2.1, r5.1.1, r5.1.2.1, r5.1.2.2.1, r5.1.2.2.2.1, r5.1.2.2.2.2.1, r5.1.2.2.2.2.2.1, r5.1.2.2.2.2.2.2, x.1.2.2.2.2.2.2.2.2.2.2.2.1, x.1.2.2.2.2.2.2.2.2.2.2.2.2.1, x.1.2.2.2.2.2.2.2.2.2.2.2.2.2.1, x.1.2.2.2.2.2.2.2.2.2.2.2.2.2.2.1, x.1.2.2.2.2.2.2.2.2.2.2.2.2.2.2.2.1, (IntKind.wrap .i64 (x.1.2.2.2.2.2.2.2.2.2.2.2.2.2.2.2.2.1 + r9)), x.1.2.2.2.2.2.2.2.2.2.2.2.2.2.2.2.2.2), (0 : Int))
/-- soundservice/soundserviceref14.step -/
noncomputable def f244 (k : Nat) (x : Int × Int × Int × Int × Int) : Option (Int) :=
  some (IntKind.wrap .i64 (x.1 * (IntKind.wrap .i64 ((65536 : Int) + x.2.2.1))))
/-- soundservice/soundserviceref14.At -/
noncomputable def f197 (k : Nat) (x : (Int × Int × Int × Int × Int) × Int) : Option (Int × Int × Int) :=
  Option.bind (f193 k x.1) fun r1 =>
  bif (!r1) then
    some ((0 : Int), (0 : Int), (1 : Int))
  else
  bif (decide (x.2 < (0 : Int))) then
    some ((0 : Int), (0 : Int), (2 : Int))
  else
  bif (decide (x.2 > (65536 : Int))) then
    some ((0 : Int), (0 : Int), (2 : Int))
  else
    Option.bind (f244 k x.1) fun r2 =>
    Option.bind (f241 k x.1) fun r3 =>
    bif (r3 == 0) then
      none
    else
      Option.bind (f241 k x.1) fun r4 =>
      bif (r4 == 0) then
        none
      else
        some ((IntKind.wrap .i64 (x.1.2.2.2.1 + (IntKind.wrap .i64 (Int.tdiv (IntKind.wrap .i64 (x.1.2.2.2.2 + (IntKind.wrap .i64 (x.2 * r2)))) r3)))), (Int.tmod (IntKind.wrap .i64 (x.1.2.2.2.2 + (IntKind.wrap .i64 (x.2 * r2)))) r4), (0 : Int))
/-- soundservice/soundserviceref14.Need -/
noncomputable def f122 (k : Nat) (x : (Int × Int × Int × Int × Int) × Int) : Option (Int × Int) :=
  Option.bind (f197 k x) fun r1 =>
  bif (r1.2.2 != (0 : Int)) then
    some ((0 : Int), r1.2.2)
  else
  bif (x.2 == (0 : Int)) then
    some ((0 : Int), (0 : Int))
  else
    Option.bind (f197 k (x.1, (IntKind.wrap .i64 (x.2 - (1 : Int))))) fun r2 =>
    some ((IntKind.wrap .i64 ((if r1.1 > (IntKind.wrap .i64 (r2.1 + (2 : Int))) then r1.1 else (IntKind.wrap .i64 (r2.1 + (2 : Int)))) - x.1.2.2.2.1)), (0 : Int))
/-- soundservice/soundserviceref14.Make -/
noncomputable def L114_6 (k : Nat) {R : Type} (K0 : Int → Option R) (y : Int × Int × Int × Int × Int × Int × Int × Int) (next : (Int × Int × Int × Int × Int × Int × Int × Int) → Option R) : Option R :=
  bif (decide (y.2.1 < y.2.2.1)) then
    Option.bind (f122 k (y.2.2.2, (IntKind.wrap .i64 (Int.tdiv (IntKind.wrap .i64 ((IntKind.wrap .i64 (y.2.1 + y.2.2.1)) + (1 : Int))) (2 : Int))))) fun r2 =>
    bif (decide (r2.1 ≤ y.1)) then
      next (y.1, (IntKind.wrap .i64 (Int.tdiv (IntKind.wrap .i64 ((IntKind.wrap .i64 (y.2.1 + y.2.2.1)) + (1 : Int))) (2 : Int))), y.2.2)
    else
      next (y.1, y.2.1, (IntKind.wrap .i64 ((IntKind.wrap .i64 (Int.tdiv (IntKind.wrap .i64 ((IntKind.wrap .i64 (y.2.1 + y.2.2.1)) + (1 : Int))) (2 : Int))) - (1 : Int))), y.2.2.2)
  else
    K0 y.2.1
noncomputable def f114 (k : Nat) (x : (Int × Int × Int × Int × Int) × Int) : Option (Int × Int) :=
  Option.bind (f193 k x.1) fun r1 =>
  bif (!r1) then
    some ((0 : Int), (1 : Int))
  else
  bif (decide (x.2 < (0 : Int))) then
    some ((0 : Int), (2 : Int))
  else
  bif (decide (x.2 > (1099511627776 : Int))) then
    some ((0 : Int), (2 : Int))
  else
    loopC k (L114_6 k
      (fun z3 =>
        some (z3, (0 : Int))))
      (x.2, (0 : Int), (65536 : Int), x.1)
/-- soundservice/soundserviceref14.Advance -/
noncomputable def f242 (k : Nat) (x : (Int × Int × Int × Int × Int) × Int) : Option ((Int × Int × Int × Int × Int) × Int) :=
  Option.bind (f197 k x) fun r1 =>
  bif (r1.2.2 != (0 : Int)) then
    some (((0 : Int), (0 : Int), (0 : Int), (0 : Int), (0 : Int)), r1.2.2)
  else
  bif (decide (r1.1 > (1125899906842624 : Int))) then
    some (((0 : Int), (0 : Int), (0 : Int), (0 : Int), (0 : Int)), (2 : Int))
  else
    some ((x.1.1, x.1.2.1, x.1.2.2.1, r1.1, r1.2.1), (0 : Int))
/-- soundservice/soundserviceref15.passed -/
noncomputable def f195 (k : Nat) (x : (Int × Int × Int × Int × Int × Int × List (Int)) × Int) : Option ((Int × Int × Int × Int × Int × Int × List (Int)) × Int) :=
  Option.bind (f242 k ((x.1.2.1, x.1.2.2.1, x.1.2.2.2.1, x.1.2.2.2.2.1, x.1.2.2.2.2.2.1), x.2)) fun r1 =>
  bif (r1.2 != (0 : Int)) then
    some (((0 : Int), (0 : Int), (0 : Int), (0 : Int), (0 : Int), (0 : Int), []), r1.2)
  else
    Option.bind (f115 k x.1) fun r2 =>
    bif (decide (0 ≤ (IntKind.wrap .i64 ((if r2 < (IntKind.wrap .i64 (r1.1.2.2.2.1 - x.1.2.2.2.2.1)) then r2 else (IntKind.wrap .i64 (r1.1.2.2.2.1 - x.1.2.2.2.2.1))) * x.1.1))) && decide ((IntKind.wrap .i64 ((if r2 < (IntKind.wrap .i64 (r1.1.2.2.2.1 - x.1.2.2.2.2.1)) then r2 else (IntKind.wrap .i64 (r1.1.2.2.2.1 - x.1.2.2.2.2.1))) * x.1.1)) ≤ (((x.1.2.2.2.2.2.2).length : Int))) && decide ((((x.1.2.2.2.2.2.2).length : Int)) ≤ (((x.1.2.2.2.2.2.2).length : Int))) && decide ((((x.1.2.2.2.2.2.2).length : Int)) ≤ (((x.1.2.2.2.2.2.2).length : Int)))) then
      bif (decide (((((x.1.2.2.2.2.2.2).take ((((x.1.2.2.2.2.2.2).length : Int))).toNat).drop ((IntKind.wrap .i64 ((if r2 < (IntKind.wrap .i64 (r1.1.2.2.2.1 - x.1.2.2.2.2.1)) then r2 else (IntKind.wrap .i64 (r1.1.2.2.2.1 - x.1.2.2.2.2.1))) * x.1.1))).toNat)).length * 4 ≤ maxBytes) && decide (((((x.1.2.2.2.2.2.2).take ((((x.1.2.2.2.2.2.2).length : Int))).toNat).drop ((IntKind.wrap .i64 ((if r2 < (IntKind.wrap .i64 (r1.1.2.2.2.1 - x.1.2.2.2.2.1)) then r2 else (IntKind.wrap .i64 (r1.1.2.2.2.1 - x.1.2.2.2.2.1))) * x.1.1))).toNat)).length ≤ 9223372036854775807)) then
        some ((x.1.1, r1.1.1, r1.1.2.1, r1.1.2.2.1, r1.1.2.2.2.1, r1.1.2.2.2.2, (((x.1.2.2.2.2.2.2).take ((((x.1.2.2.2.2.2.2).length : Int))).toNat).drop ((IntKind.wrap .i64 ((if r2 < (IntKind.wrap .i64 (r1.1.2.2.2.1 - x.1.2.2.2.2.1)) then r2 else (IntKind.wrap .i64 (r1.1.2.2.2.1 - x.1.2.2.2.2.1))) * x.1.1))).toNat)), (0 : Int))
      else
        none
    else
      none
/-- soundservice/soundserviceref15.between -/
noncomputable def f243 (k : Nat) (x : Int × Int × Int × Int) : Option (Int) :=
  bif (x.2.2.2 == 0) then
    none
  else
  bif (x.2.2.2 == 0) then
    none
  else
  bif (decide ((Int.tmod (IntKind.wrap .i64 ((IntKind.wrap .i64 ((IntKind.wrap .i64 ((IntKind.wrap .i64 x.1) * (IntKind.wrap .i64 (x.2.2.2 - x.2.2.1)))) + (IntKind.wrap .i64 ((IntKind.wrap .i64 x.2.1) * x.2.2.1)))) + (IntKind.wrap .i64 (Int.tdiv x.2.2.2 (2 : Int))))) x.2.2.2) < (0 : Int))) then
    some (IntKind.wrap .i32 (IntKind.wrap .i64 ((IntKind.wrap .i64 (Int.tdiv (IntKind.wrap .i64 ((IntKind.wrap .i64 ((IntKind.wrap .i64 ((IntKind.wrap .i64 x.1) * (IntKind.wrap .i64 (x.2.2.2 - x.2.2.1)))) + (IntKind.wrap .i64 ((IntKind.wrap .i64 x.2.1) * x.2.2.1)))) + (IntKind.wrap .i64 (Int.tdiv x.2.2.2 (2 : Int))))) x.2.2.2)) - (1 : Int))))
  else
    some (IntKind.wrap .i32 (IntKind.wrap .i64 (Int.tdiv (IntKind.wrap .i64 ((IntKind.wrap .i64 ((IntKind.wrap .i64 ((IntKind.wrap .i64 x.1) * (IntKind.wrap .i64 (x.2.2.2 - x.2.2.1)))) + (IntKind.wrap .i64 ((IntKind.wrap .i64 x.2.1) * x.2.2.1)))) + (IntKind.wrap .i64 (Int.tdiv x.2.2.2 (2 : Int))))) x.2.2.2)))
/-- soundservice/soundserviceref15.frames -/
noncomputable def L196_10 (k : Nat) {R : Type} (K0 : (Int × Int × Int × (Int × Int × Int × Int × Int × Int × List (Int)) × Int × Int × List (Int)) → Option R) (y : Int × Int × Int × Int × Int × Int × Int × (Int × Int × Int × Int × Int × Int × List (Int)) × Int × Int × List (Int)) (next : (Int × Int × Int × Int × Int × Int × Int × (Int × Int × Int × Int × Int × Int × List (Int)) × Int × Int × List (Int)) → Option R) : Option R :=
  bif (decide (y.2.2.2.2.2.2.1 < y.2.2.2.2.2.2.2.1.1)) then
    bif (decide (0 ≤ (IntKind.wrap .i64 (y.2.2.2.2.1 + y.2.2.2.2.2.2.1))) && decide ((IntKind.wrap .i64 (y.2.2.2.2.1 + y.2.2.2.2.2.2.1)) < ((y.2.2.2.2.2.2.2.1.2.2.2.2.2.2).length : Int))) then
      bif (decide (0 ≤ (IntKind.wrap .i64 (y.2.2.2.2.2.1 + y.2.2.2.2.2.2.1))) && decide ((IntKind.wrap .i64 (y.2.2.2.2.2.1 + y.2.2.2.2.2.2.1)) < ((y.2.2.2.2.2.2.2.1.2.2.2.2.2.2).length : Int))) then
        Option.bind (f241 k (y.2.2.2.2.2.2.2.1.2.1, y.2.2.2.2.2.2.2.1.2.2.1, y.2.2.2.2.2.2.2.1.2.2.2.1, y.2.2.2.2.2.2.2.1.2.2.2.2.1, y.2.2.2.2.2.2.2.1.2.2.2.2.2.1)) fun r5 =>
        Option.bind (f243 k (((y.2.2.2.2.2.2.2.1.2.2.2.2.2.2).getD ((IntKind.wrap .i64 (y.2.2.2.2.1 + y.2.2.2.2.2.2.1))).toNat (0 : Int)), ((y.2.2.2.2.2.2.2.1.2.2.2.2.2.2).getD ((IntKind.wrap .i64 (y.2.2.2.2.2.1 + y.2.2.2.2.2.2.1))).toNat (0 : Int)), y.2.2.2.1, r5)) fun r6 =>
        bif (decide (((y.2.2.2.2.2.2.2.2.2.2).length + (([r6])).length) * 4 ≤ maxBytes) && decide ((y.2.2.2.2.2.2.2.2.2.2).length + (([r6])).length ≤ 9223372036854775807)) then
          next (y.1, y.2.1, y.2.2.1, y.2.2.2.1, y.2.2.2.2.1, y.2.2.2.2.2.1, (IntKind.wrap .i64 (y.2.2.2.2.2.2.1 + (1 : Int))), y.2.2.2.2.2.2.2.1, y.2.2.2.2.2.2.2.2.1, y.2.2.2.2.2.2.2.2.2.1, (y.2.2.2.2.2.2.2.2.2.2 ++ ([r6])))
        else
          none
      else
        none
    else
      none
  else
    K0 (y.1, y.2.1, y.2.2.1, y.2.2.2.2.2.2.2)
noncomputable def L196_4 (k : Nat) {R : Type} (K0 : (Int × Int × List (Int)) → Option R) (y : Int × Int × Int × (Int × Int × Int × Int × Int × Int × List (Int)) × Int × Int × List (Int)) (next : (Int × Int × Int × (Int × Int × Int × Int × Int × Int × List (Int)) × Int × Int × List (Int)) → Option R) : Option R :=
  bif (decide (y.2.2.1 < y.1)) then
    Option.bind (f197 k ((y.2.2.2.1.2.1, y.2.2.2.1.2.2.1, y.2.2.2.1.2.2.2.1, y.2.2.2.1.2.2.2.2.1, y.2.2.2.1.2.2.2.2.2.1), y.2.2.1)) fun r8 =>
    loopC k (L196_10 k
      (fun z9 =>
        next (z9.1, z9.2.1, (IntKind.wrap .i64 (z9.2.2.1 + (1 : Int))), z9.2.2.2)))
      (y.1, y.2.1, y.2.2.1, r8.2.1, (IntKind.wrap .i64 ((if (IntKind.wrap .i64 (y.2.1 - (1 : Int))) < (IntKind.wrap .i64 (r8.1 - y.2.2.2.1.2.2.2.2.1)) then (IntKind.wrap .i64 (y.2.1 - (1 : Int))) else (IntKind.wrap .i64 (r8.1 - y.2.2.2.1.2.2.2.2.1))) * y.2.2.2.1.1)), (IntKind.wrap .i64 ((if (IntKind.wrap .i64 (y.2.1 - (1 : Int))) < (IntKind.wrap .i64 ((IntKind.wrap .i64 (r8.1 - y.2.2.2.1.2.2.2.2.1)) + (1 : Int))) then (IntKind.wrap .i64 (y.2.1 - (1 : Int))) else (IntKind.wrap .i64 ((IntKind.wrap .i64 (r8.1 - y.2.2.2.1.2.2.2.2.1)) + (1 : Int)))) * y.2.2.2.1.1)), (0 : Int), y.2.2.2)
  else
    K0 y.2.2.2.2
noncomputable def f196 (k : Nat) (x : (Int × Int × Int × Int × Int × Int × List (Int)) × Int) : Option (Int × List (Int)) :=
  Option.bind (f115 k x.1) fun r1 =>
  loopC k (L196_4 k
    (fun z10 =>
      some z10.2))
    (x.2, r1, (0 : Int), x.1, (0 : Int), x.1.1, [])
/-- soundservice/soundserviceref15.Take -/
noncomputable def f116 (k : Nat) (x : (Int × Int × Int × Int × Int × Int × List (Int)) × Int) : Option ((Int × List (Int)) × (Int × Int × Int × Int × Int × Int × List (Int)) × Int) :=
  Option.bind (f112 k x.1) fun r1 =>
  bif (!r1) then
    some (((0 : Int), []), ((0 : Int), (0 : Int), (0 : Int), (0 : Int), (0 : Int), (0 : Int), []), (1 : Int))
  else
    Option.bind (f122 k ((x.1.2.1, x.1.2.2.1, x.1.2.2.2.1, x.1.2.2.2.2.1, x.1.2.2.2.2.2.1), x.2)) fun r2 =>
    bif (r2.2 != (0 : Int)) then
      some (((0 : Int), []), ((0 : Int), (0 : Int), (0 : Int), (0 : Int), (0 : Int), (0 : Int), []), r2.2)
    else
      Option.bind (f115 k x.1) fun r3 =>
      bif (decide (r2.1 > r3)) then
        some (((0 : Int), []), ((0 : Int), (0 : Int), (0 : Int), (0 : Int), (0 : Int), (0 : Int), []), (4 : Int))
      else
        Option.bind (f195 k x) fun r4 =>
        bif (r4.2 != (0 : Int)) then
          some (((0 : Int), []), ((0 : Int), (0 : Int), (0 : Int), (0 : Int), (0 : Int), (0 : Int), []), r4.2)
        else
          Option.bind (f196 k x) fun r5 =>
          some (r5, r4.1, (0 : Int))
/-- soundservice/soundserviceref15.Finish -/
noncomputable def L136_6 (k : Nat) {R : Type} (K0 : (Int × (Int × Int × Int × Int × Int × Int × List (Int)) × Int × Int × Int × Int × Int × Int × Int) → Option R) (y : Int × Int × Int × (Int × Int × Int × Int × Int × Int × List (Int)) × Int × Int × Int × Int × Int × Int × Int) (next : (Int × Int × Int × (Int × Int × Int × Int × Int × Int × List (Int)) × Int × Int × Int × Int × Int × Int × Int) → Option R) : Option R :=
  bif (decide (y.2.1 < y.1)) then
    Option.bind (f197 k ((y.2.2.2.1.2.1, y.2.2.2.1.2.2.1, y.2.2.2.1.2.2.2.1, y.2.2.2.1.2.2.2.2.1, y.2.2.2.1.2.2.2.2.2.1), y.2.1)) fun r3 =>
    bif (decide ((IntKind.wrap .i64 (r3.1 - y.2.2.2.1.2.2.2.2.1)) ≥ y.2.2.1)) then
      K0 (y.2.1, y.2.2.2)
    else
      next (y.1, (IntKind.wrap .i64 (y.2.1 + (1 : Int))), y.2.2)
  else
    K0 (y.2.1, y.2.2.2)
noncomputable def f136 (k : Nat) (x : (Int × Int × Int × Int × Int × Int × List (Int)) × Int) : Option ((Int × List (Int)) × (Int × Int × Int × Int × Int × Int × List (Int)) × Int) :=
  Option.bind (f112 k x.1) fun r1 =>
  bif (!r1) then
    some (((0 : Int), []), ((0 : Int), (0 : Int), (0 : Int), (0 : Int), (0 : Int), (0 : Int), []), (1 : Int))
  else
  bif (decide (x.2 < (0 : Int))) then
    some (((0 : Int), []), ((0 : Int), (0 : Int), (0 : Int), (0 : Int), (0 : Int), (0 : Int), []), (2 : Int))
  else
  bif (decide (x.2 > (65536 : Int))) then
    some (((0 : Int), []), ((0 : Int), (0 : Int), (0 : Int), (0 : Int), (0 : Int), (0 : Int), []), (2 : Int))
  else
    Option.bind (f115 k x.1) fun r2 =>
    loopC k (L136_6 k
      (fun z4 =>
        Option.bind (f195 k (z4.2.1, z4.1)) fun r5 =>
        bif (r5.2 != (0 : Int)) then
          some (((0 : Int), []), ((0 : Int), (0 : Int), (0 : Int), (0 : Int), (0 : Int), (0 : Int), []), r5.2)
        else
          Option.bind (f196 k (z4.2.1, z4.1)) fun r6 =>
          some (r6, r5.1, (0 : Int))))
      (x.2, (0 : Int), r2, x.1, (0 : Int), (0 : Int), (0 : Int), (0 : Int), (0 : Int), (0 : Int), (0 : Int))
/-- soundservice/soundserviceref04.Silence -/
noncomputable def f30 (k : Nat) (x : Int × Int) : Option ((Int × List (Int)) × Int) :=
  bif (decide (x.1 < (1 : Int))) then
    some (((0 : Int), []), (2 : Int))
  else
  bif (decide (x.1 > (8 : Int))) then
    some (((0 : Int), []), (2 : Int))
  else
  bif (decide (x.2 < (0 : Int))) then
    some (((0 : Int), []), (2 : Int))
  else
  bif (decide (x.2 > (65536 : Int))) then
    some (((0 : Int), []), (2 : Int))
  else
  bif (decide (0 ≤ (IntKind.wrap .i64 (x.1 * x.2))) && decide ((IntKind.wrap .i64 (x.1 * x.2)) ≤ (IntKind.wrap .i64 (x.1 * x.2))) && decide ((IntKind.wrap .i64 (x.1 * x.2)) * ((4 : Nat) : Int) ≤ (maxBytes : Int)) && true && true) then
    some ((x.1, (List.replicate ((IntKind.wrap .i64 (x.1 * x.2))).toNat (0 : Int))), (0 : Int))
  else
    none
/-- soundservice/soundserviceref04.Join -/
noncomputable def f36 (k : Nat) (x : (Int × List (Int)) × Int × List (Int)) : Option (Int × List (Int)) :=
  bif (decide ((x.1.2).length * 4 ≤ maxBytes) && decide ((x.1.2).length ≤ 9223372036854775807)) then
    bif (decide (((x.1.2).length + (x.2.2).length) * 4 ≤ maxBytes) && decide ((x.1.2).length + (x.2.2).length ≤ 9223372036854775807)) then
      some (x.1.1, (x.1.2 ++ x.2.2))
    else
      none
  else
    none
/-- soundservice/soundserviceref20.Take -/
noncomputable def f61 (k : Nat) (x : (Int × Int × Int × Int × Int × Int × Int × Int × Int × Int × List (Int) × Int × Int × Int × Int × List (Int) × Int × Int × Int) × Int) : Option ((Int × List (Int)) × Int × (Int × Int × Int × Int × Int × Int × Int × Int × Int × Int × List (Int) × Int × Int × Int × Int × List (Int) × Int × Int × Int) × Int) :=
  Option.bind (f121 k x.1) fun r1 =>
  bif (!r1) then
    some (((0 : Int), []), (0 : Int), ((0 : Int), (0 : Int), (0 : Int), (0 : Int), (0 : Int), (0 : Int), (0 : Int), (0 : Int), (0 : Int), (0 : Int), [], (0 : Int), (0 : Int), (0 : Int), (0 : Int), [], (0 : Int), (0 : Int), (0 : Int)), (1 : Int))
  else
  bif (decide (x.2 < (0 : Int))) then
    some (((0 : Int), []), (0 : Int), ((0 : Int), (0 : Int), (0 : Int), (0 : Int), (0 : Int), (0 : Int), (0 : Int), (0 : Int), (0 : Int), (0 : Int), [], (0 : Int), (0 : Int), (0 : Int), (0 : Int), [], (0 : Int), (0 : Int), (0 : Int)), (2 : Int))
  else
  bif (decide (x.2 > (65536 : Int))) then
    some (((0 : Int), []), (0 : Int), ((0 : Int), (0 : Int), (0 : Int), (0 : Int), (0 : Int), (0 : Int), (0 : Int), (0 : Int), (0 : Int), (0 : Int), [], (0 : Int), (0 : Int), (0 : Int), (0 : Int), [], (0 : Int), (0 : Int), (0 : Int)), (2 : Int))
  else
  bif (x.1.2.1 == (3 : Int)) then
    Option.bind (f50 k x.1) fun r2 =>
    Option.bind (f114 k ((x.1.2.2.2.2.2.1, x.1.2.2.2.2.2.2.1, x.1.2.2.2.2.2.2.2.1, x.1.2.2.2.2.2.2.2.2.1, x.1.2.2.2.2.2.2.2.2.2.1), r2)) fun r3 =>
    Option.bind (f116 k ((x.1.2.2.2.2.1, x.1.2.2.2.2.2.1, x.1.2.2.2.2.2.2.1, x.1.2.2.2.2.2.2.2.1, x.1.2.2.2.2.2.2.2.2.1, x.1.2.2.2.2.2.2.2.2.2.1, x.1.2.2.2.2.2.2.2.2.2.2.1), (if x.2 < r3.1 then x.2 else r3.1))) fun r4 =>
    bif (r4.2.2 != (0 : Int)) then
      some (((0 : Int), []), (0 : Int), ((0 : Int), (0 : Int), (0 : Int), (0 : Int), (0 : Int), (0 : Int), (0 : Int), (0 : Int), (0 : Int), (0 : Int), [], (0 : Int), (0 : Int), (0 : Int), (0 : Int), [], (0 : Int), (0 : Int), (0 : Int)), r4.2.2)
    else
    bif (x.1.2.1 == (3 : Int)) then
      bif (x.1.2.1 == (5 : Int)) then
        bif ((((r4.2.1.2.2.2.2.2.2).length : Int)) == (0 : Int)) then
          Option.bind (f42 k r4.1) fun r5 =>
          Option.bind (f30 k (x.1.2.2.2.2.1, (IntKind.wrap .i64 (x.2 - r5)))) fun r6 =>
          Option.bind (f36 k (r4.1, r6.1)) fun r7 =>
          some (r7, (IntKind.wrap .i64 (x.2 - (if x.2 < r3.1 then x.2 else r3.1))), (x.1.1, (6 : Int), x.1.2.2.1, x.1.2.2.2.1, r4.2.1.1, r4.2.1.2.1, r4.2.1.2.2.1, r4.2.1.2.2.2.1, r4.2.1.2.2.2.2.1, r4.2.1.2.2.2.2.2.1, r4.2.1.2.2.2.2.2.2, x.1.2.2.2.2.2.2.2.2.2.2.2.1, x.1.2.2.2.2.2.2.2.2.2.2.2.2.1, x.1.2.2.2.2.2.2.2.2.2.2.2.2.2.1, x.1.2.2.2.2.2.2.2.2.2.2.2.2.2.2.1, x.1.2.2.2.2.2.2.2.2.2.2.2.2.2.2.2.1, x.1.2.2.2.2.2.2.2.2.2.2.2.2.2.2.2.2.1, (IntKind.wrap .i64 (x.1.2.2.2.2.2.2.2.2.2.2.2.2.2.2.2.2.2.1 + x.2)), (IntKind.wrap .i64 (x.1.2.2.2.2.2.2.2.2.2.2.2.2.2.2.2.2.2.2 + (IntKind.wrap .i64 (x.2 - (if x.2 < r3.1 then x.2 else r3.1)))))), (0 : Int))
        else
          Option.bind (f42 k r4.1) fun r8 =>
          Option.bind (f30 k (x.1.2.2.2.2.1, (IntKind.wrap .i64 (x.2 - r8)))) fun r9 =>
          Option.bind (f36 k (r4.1, r9.1)) fun r10 =>
          some (r10, (IntKind.wrap .i64 (x.2 - (if x.2 < r3.1 then x.2 else r3.1))), (x.1.1, x.1.2.1, x.1.2.2.1, x.1.2.2.2.1, r4.2.1.1, r4.2.1.2.1, r4.2.1.2.2.1, r4.2.1.2.2.2.1, r4.2.1.2.2.2.2.1, r4.2.1.2.2.2.2.2.1, r4.2.1.2.2.2.2.2.2, x.1.2.2.2.2.2.2.2.2.2.2.2.1, x.1.2.2.2.2.2.2.2.2.2.2.2.2.1, x.1.2.2.2.2.2.2.2.2.2.2.2.2.2.1, x.1.2.2.2.2.2.2.2.2.2.2.2.2.2.2.1, x.1.2.2.2.2.2.2.2.2.2.2.2.2.2.2.2.1, x.1.2.2.2.2.2.2.2.2.2.2.2.2.2.2.2.2.1, (IntKind.wrap .i64 (x.1.2.2.2.2.2.2.2.2.2.2.2.2.2.2.2.2.2.1 + x.2)), (IntKind.wrap .i64 (x.1.2.2.2.2.2.2.2.2.2.2.2.2.2.2.2.2.2.2 + (IntKind.wrap .i64 (x.2 - (if x.2 < r3.1 then x.2 else r3.1)))))), (0 : Int))
      else
        Option.bind (f42 k r4.1) fun r11 =>
        Option.bind (f30 k (x.1.2.2.2.2.1, (IntKind.wrap .i64 (x.2 - r11)))) fun r12 =>
        Option.bind (f36 k (r4.1, r12.1)) fun r13 =>
        some (r13, (IntKind.wrap .i64 (x.2 - (if x.2 < r3.1 then x.2 else r3.1))), (x.1.1, x.1.2.1, x.1.2.2.1, x.1.2.2.2.1, r4.2.1.1, r4.2.1.2.1, r4.2.1.2.2.1, r4.2.1.2.2.2.1, r4.2.1.2.2.2.2.1, r4.2.1.2.2.2.2.2.1, r4.2.1.2.2.2.2.2.2, x.1.2.2.2.2.2.2.2.2.2.2.2.1, x.1.2.2.2.2.2.2.2.2.2.2.2.2.1, x.1.2.2.2.2.2.2.2.2.2.2.2.2.2.1, x.1.2.2.2.2.2.2.2.2.2.2.2.2.2.2.1, x.1.2.2.2.2.2.2.2.2.2.2.2.2.2.2.2.1, x.1.2.2.2.2.2.2.2.2.2.2.2.2.2.2.2.2.1, (IntKind.wrap .i64 (x.1.2.2.2.2.2.2.2.2.2.2.2.2.2.2.2.2.2.1 + x.2)), (IntKind.wrap .i64 (x.1.2.2.2.2.2.2.2.2.2.2.2.2.2.2.2.2.2.2 + (IntKind.wrap .i64 (x.2 - (if x.2 < r3.1 then x.2 else r3.1)))))), (0 : Int))
    else
    bif (x.1.2.1 == (5 : Int)) then
      bif (x.1.2.1 == (5 : Int)) then
        bif ((((r4.2.1.2.2.2.2.2.2).length : Int)) == (0 : Int)) then
          Option.bind (f42 k r4.1) fun r14 =>
          Option.bind (f30 k (x.1.2.2.2.2.1, (IntKind.wrap .i64 (x.2 - r14)))) fun r15 =>
          Option.bind (f36 k (r4.1, r15.1)) fun r16 =>
          some (r16, (IntKind.wrap .i64 (x.2 - (if x.2 < r3.1 then x.2 else r3.1))), (x.1.1, (6 : Int), x.1.2.2.1, x.1.2.2.2.1, r4.2.1.1, r4.2.1.2.1, r4.2.1.2.2.1, r4.2.1.2.2.2.1, r4.2.1.2.2.2.2.1, r4.2.1.2.2.2.2.2.1, r4.2.1.2.2.2.2.2.2, x.1.2.2.2.2.2.2.2.2.2.2.2.1, x.1.2.2.2.2.2.2.2.2.2.2.2.2.1, x.1.2.2.2.2.2.2.2.2.2.2.2.2.2.1, x.1.2.2.2.2.2.2.2.2.2.2.2.2.2.2.1, x.1.2.2.2.2.2.2.2.2.2.2.2.2.2.2.2.1, x.1.2.2.2.2.2.2.2.2.2.2.2.2.2.2.2.2.1, (IntKind.wrap .i64 (x.1.2.2.2.2.2.2.2.2.2.2.2.2.2.2.2.2.2.1 + x.2)), (IntKind.wrap .i64 (x.1.2.2.2.2.2.2.2.2.2.2.2.2.2.2.2.2.2.2 + (IntKind.wrap .i64 (x.2 - (if x.2 < r3.1 then x.2 else r3.1)))))), (0 : Int))
        else
          Option.bind (f42 k r4.1) fun r17 =>
          Option.bind (f30 k (x.1.2.2.2.2.1, (IntKind.wrap .i64 (x.2 - r17)))) fun r18 =>
          Option.bind (f36 k (r4.1, r18.1)) fun r19 =>
          some (r19, (IntKind.wrap .i64 (x.2 - (if x.2 < r3.1 then x.2 else r3.1))), (x.1.1, x.1.2.1, x.1.2.2.1, x.1.2.2.2.1, r4.2.1.1, r4.2.1.2.1, r4.2.1.2.2.1, r4.2.1.2.2.2.1, r4.2.1.2.2.2.2.1, r4.2.1.2.2.2.2.2.1, r4.2.1.2.2.2.2.2.2, x.1.2.2.2.2.2.2.2.2.2.2.2.1, x.1.2.2.2.2.2.2.2.2.2.2.2.2.1, x.1.2.2.2.2.2.2.2.2.2.2.2.2.2.1, x.1.2.2.2.2.2.2.2.2.2.2.2.2.2.2.1, x.1.2.2.2.2.2.2.2.2.2.2.2.2.2.2.2.1, x.1.2.2.2.2.2.2.2.2.2.2.2.2.2.2.2.2.1, (IntKind.wrap .i64 (x.1.2.2.2.2.2.2.2.2.2.2.2.2.2.2.2.2.2.1 + x.2)), (IntKind.wrap .i64 (x.1.2.2.2.2.2.2.2.2.2.2.2.2.2.2.2.2.2.2 + (IntKind.wrap .i64 (x.2 - (if x.2 < r3.1 then x.2 else r3.1)))))), (0 : Int))
      else
        Option.bind (f42 k r4.1) fun r20 =>
        Option.bind (f30 k (x.1.2.2.2.2.1, (IntKind.wrap .i64 (x.2 - r20)))) fun r21 =>
        Option.bind (f36 k (r4.1, r21.1)) fun r22 =>
        some (r22, (IntKind.wrap .i64 (x.2 - (if x.2 < r3.1 then x.2 else r3.1))), (x.1.1, x.1.2.1, x.1.2.2.1, x.1.2.2.2.1, r4.2.1.1, r4.2.1.2.1, r4.2.1.2.2.1, r4.2.1.2.2.2.1, r4.2.1.2.2.2.2.1, r4.2.1.2.2.2.2.2.1, r4.2.1.2.2.2.2.2.2, x.1.2.2.2.2.2.2.2.2.2.2.2.1, x.1.2.2.2.2.2.2.2.2.2.2.2.2.1, x.1.2.2.2.2.2.2.2.2.2.2.2.2.2.1, x.1.2.2.2.2.2.2.2.2.2.2.2.2.2.2.1, x.1.2.2.2.2.2.2.2.2.2.2.2.2.2.2.2.1, x.1.2.2.2.2.2.2.2.2.2.2.2.2.2.2.2.2.1, (IntKind.wrap .i64 (x.1.2.2.2.2.2.2.2.2.2.2.2.2.2.2.2.2.2.1 + x.2)), (IntKind.wrap .i64 (x.1.2.2.2.2.2.2.2.2.2.2.2.2.2.2.2.2.2.2 + (IntKind.wrap .i64 (x.2 - (if x.2 < r3.1 then x.2 else r3.1)))))), (0 : Int))
    else
    bif (x.1.2.1 == (5 : Int)) then
      bif ((((r4.2.1.2.2.2.2.2.2).length : Int)) == (0 : Int)) then
        Option.bind (f42 k r4.1) fun r23 =>
        Option.bind (f30 k (x.1.2.2.2.2.1, (IntKind.wrap .i64 (x.2 - r23)))) fun r24 =>
        Option.bind (f36 k (r4.1, r24.1)) fun r25 =>
        some (r25, (IntKind.wrap .i64 (x.2 - (if x.2 < r3.1 then x.2 else r3.1))), (x.1.1, (6 : Int), x.1.2.2.1, x.1.2.2.2.1, r4.2.1.1, r4.2.1.2.1, r4.2.1.2.2.1, r4.2.1.2.2.2.1, r4.2.1.2.2.2.2.1, r4.2.1.2.2.2.2.2.1, r4.2.1.2.2.2.2.2.2, x.1.2.2.2.2.2.2.2.2.2.2.2), (0 : Int))
      else
        Option.bind (f42 k r4.1) fun r26 =>
        Option.bind (f30 k (x.1.2.2.2.2.1, (IntKind.wrap .i64 (x.2 - r26)))) fun r27 =>
        Option.bind (f36 k (r4.1, r27.1)) fun r28 =>
        some (r28, (IntKind.wrap .i64 (x.2 - (if x.2 < r3.1 then x.2 else r3.1))), (x.1.1, x.1.2.1, x.1.2.2.1, x.1.2.2.2.1, r4.2.1.1, r4.2.1.2.1, r4.2.1.2.2.1, r4.2.1.2.2.2.1, r4.2.1.2.2.2.2.1, r4.2.1.2.2.2.2.2.1, r4.2.1.2.2.2.2.2.2, x.1.2.2.2.2.2.2.2.2.2.2.2), (0 : Int))
    else
      Option.bind (f42 k r4.1) fun r29 =>
      Option.bind (f30 k (x.1.2.2.2.2.1, (IntKind.wrap .i64 (x.2 - r29)))) fun r30 =>
      Option.bind (f36 k (r4.1, r30.1)) fun r31 =>
      some (r31, (IntKind.wrap .i64 (x.2 - (if x.2 < r3.1 then x.2 else r3.1))), (x.1.1, x.1.2.1, x.1.2.2.1, x.1.2.2.2.1, r4.2.1.1, r4.2.1.2.1, r4.2.1.2.2.1, r4.2.1.2.2.2.1, r4.2.1.2.2.2.2.1, r4.2.1.2.2.2.2.2.1, r4.2.1.2.2.2.2.2.2, x.1.2.2.2.2.2.2.2.2.2.2.2), (0 : Int))
  else
  bif (x.1.2.1 == (5 : Int)) then
    Option.bind (f136 k ((x.1.2.2.2.2.1, x.1.2.2.2.2.2.1, x.1.2.2.2.2.2.2.1, x.1.2.2.2.2.2.2.2.1, x.1.2.2.2.2.2.2.2.2.1, x.1.2.2.2.2.2.2.2.2.2.1, x.1.2.2.2.2.2.2.2.2.2.2.1), x.2)) fun r32 =>
    bif (r32.2.2 != (0 : Int)) then
      some (((0 : Int), []), (0 : Int), ((0 : Int), (0 : Int), (0 : Int), (0 : Int), (0 : Int), (0 : Int), (0 : Int), (0 : Int), (0 : Int), (0 : Int), [], (0 : Int), (0 : Int), (0 : Int), (0 : Int), [], (0 : Int), (0 : Int), (0 : Int)), r32.2.2)
    else
    bif (x.1.2.1 == (3 : Int)) then
      bif (x.1.2.1 == (5 : Int)) then
        bif ((((r32.2.1.2.2.2.2.2.2).length : Int)) == (0 : Int)) then
          Option.bind (f42 k r32.1) fun r33 =>
          Option.bind (f30 k (x.1.2.2.2.2.1, (IntKind.wrap .i64 (x.2 - r33)))) fun r34 =>
          Option.bind (f36 k (r32.1, r34.1)) fun r35 =>
          some (r35, (0 : Int), (x.1.1, (6 : Int), x.1.2.2.1, x.1.2.2.2.1, r32.2.1.1, r32.2.1.2.1, r32.2.1.2.2.1, r32.2.1.2.2.2.1, r32.2.1.2.2.2.2.1, r32.2.1.2.2.2.2.2.1, r32.2.1.2.2.2.2.2.2, x.1.2.2.2.2.2.2.2.2.2.2.2.1, x.1.2.2.2.2.2.2.2.2.2.2.2.2.1, x.1.2.2.2.2.2.2.2.2.2.2.2.2.2.1, x.1.2.2.2.2.2.2.2.2.2.2.2.2.2.2.1, x.1.2.2.2.2.2.2.2.2.2.2.2.2.2.2.2.1, x.1.2.2.2.2.2.2.2.2.2.2.2.2.2.2.2.2.1, (IntKind.wrap .i64 (x.1.2.2.2.2.2.2.2.2.2.2.2.2.2.2.2.2.2.1 + x.2)), (IntKind.wrap .i64 (x.1.2.2.2.2.2.2.2.2.2.2.2.2.2.2.2.2.2.2 + (0 : Int)))), (0 : Int))
        else
          Option.bind (f42 k r32.1) fun r36 =>
          Option.bind (f30 k (x.1.2.2.2.2.1, (IntKind.wrap .i64 (x.2 - r36)))) fun r37 =>
          Option.bind (f36 k (r32.1, r37.1)) fun r38 =>
          some (r38, (0 : Int), (x.1.1, x.1.2.1, x.1.2.2.1, x.1.2.2.2.1, r32.2.1.1, r32.2.1.2.1, r32.2.1.2.2.1, r32.2.1.2.2.2.1, r32.2.1.2.2.2.2.1, r32.2.1.2.2.2.2.2.1, r32.2.1.2.2.2.2.2.2, x.1.2.2.2.2.2.2.2.2.2.2.2.1, x.1.2.2.2.2.2.2.2.2.2.2.2.2.1, x.1.2.2.2.2.2.2.2.2.2.2.2.2.2.1, x.1.2.2.2.2.2.2.2.2.2.2.2.2.2.2.1, x.1.2.2.2.2.2.2.2.2.2.2.2.2.2.2.2.1, x.1.2.2.2.2.2.2.2.2.2.2.2.2.2.2.2.2.1, (IntKind.wrap .i64 (x.1.2.2.2.2.2.2.2.2.2.2.2.2.2.2.2.2.2.1 + x.2)), (IntKind.wrap .i64 (x.1.2.2.2.2.2.2.2.2.2.2.2.2.2.2.2.2.2.2 + (0 : Int)))), (0 : Int))
      else
        Option.bind (f42 k r32.1) fun r39 =>
        Option.bind (f30 k (x.1.2.2.2.2.1, (IntKind.wrap .i64 (x.2 - r39)))) fun r40 =>
        Option.bind (f36 k (r32.1, r40.1)) fun r41 =>
        some (r41, (0 : Int), (x.1.1, x.1.2.1, x.1.2.2.1, x.1.2.2.2.1, r32.2.1.1, r32.2.1.2.1, r32.2.1.2.2.1, r32.2.1.2.2.2.1, r32.2.1.2.2.2.2.1, r32.2.1.2.2.2.2.2.1, r32.2.1.2.2.2.2.2.2, x.1.2.2.2.2.2.2.2.2.2.2.2.1, x.1.2.2.2.2.2.2.2.2.2.2.2.2.1, x.1.2.2.2.2.2.2.2.2.2.2.2.2.2.1, x.1.2.2.2.2.2.2.2.2.2.2.2.2.2.2.1, x.1.2.2.2.2.2.2.2.2.2.2.2.2.2.2.2.1, x.1.2.2.2.2.2.2.2.2.2.2.2.2.2.2.2.2.1, (IntKind.wrap .i64 (x.1.2.2.2.2.2.2.2.2.2.2.2.2.2.2.2.2.2.1 + x.2)), (IntKind.wrap .i64 (x.1.2.2.2.2.2.2.2.2.2.2.2.2.2.2.2.2.2.2 + (0 : Int)))), (0 : Int))
    else
    bif (x.1.2.1 == (5 : Int)) then
      bif (x.1.2.1 == (5 : Int)) then
        bif ((((r32.2.1.2.2.2.2.2.2).length : Int)) == (0 : Int)) then
          Option.bind (f42 k r32.1) fun r42 =>
          Option.bind (f30 k (x.1.2.2.2.2.1, (IntKind.wrap .i64 (x.2 - r42)))) fun r43 =>
          Option.bind (f36 k (r32.1, r43.1)) fun r44 =>
          some (r44, (0 : Int), (x.1.1, (6 : Int), x.1.2.2.1, x.1.2.2.2.1, r32.2.1.1, r32.2.1.2.1, r32.2.1.2.2.1, r32.2.1.2.2.2.1, r32.2.1.2.2.2.2.1, r32.2.1.2.2.2.2.2.1, r32.2.1.2.2.2.2.2.2, x.1.2.2.2.2.2.2.2.2.2.2.2.1, x.1.2.2.2.2.2.2.2.2.2.2.2.2.1, x.1.2.2.2.2.2.2.2.2.2.2.2.2.2.1, x.1.2.2.2.2.2.2.2.2.2.2.2.2.2.2.1, x.1.2.2.2.2.2.2.2.2.2.2.2.2.2.2.2.1, x.1.2.2.2.2.2.2.2.2.2.2.2.2.2.2.2.2.1, (IntKind.wrap .i64 (x.1.2.2.2.2.2.2.2.2.2.2.2.2.2.2.2.2.2.1 + x.2)), (IntKind.wrap .i64 (x.1.2.2.2.2.2.2.2.2.2.2.2.2.2.2.2.2.2.2 + (0 : Int)))), (0 : Int))
        else
          Option.bind (f42 k r32.1) fun r45 =>
          Option.bind (f30 k (x.1.2.2.2.2.1, (IntKind.wrap .i64 (x.2 - r45)))) fun r46 =>
          Option.bind (f36 k (r32.1, r46.1)) fun r47 =>
          some (r47, (0 : Int), (x.1.1, x.1.2.1, x.1.2.2.1, x.1.2.2.2.1, r32.2.1.1, r32.2.1.2.1, r32.2.1.2.2.1, r32.2.1.2.2.2.1, r32.2.1.2.2.2.2.1, r32.2.1.2.2.2.2.2.1, r32.2.1.2.2.2.2.2.2, x.1.2.2.2.2.2.2.2.2.2.2.2.1, x.1.2.2.2.2.2.2.2.2.2.2.2.2.1, x.1.2.2.2.2.2.2.2.2.2.2.2.2.2.1, x.1.2.2.2.2.2.2.2.2.2.2.2.2.2.2.1, x.1.2.2.2.2.2.2.2.2.2.2.2.2.2.2.2.1, x.1.2.2.2.2.2.2.2.2.2.2.2.2.2.2.2.2.1, (IntKind.wrap .i64 (x.1.2.2.2.2.2.2.2.2.2.2.2.2.2.2.2.2.2.1 + x.2)), (IntKind.wrap .i64 (x.1.2.2.2.2.2.2.2.2.2.2.2.2.2.2.2.2.2.2 + (0 : Int)))), (0 : Int))
      else
        Option.bind (f42 k r32.1) fun r48 =>
        Option.bind (f30 k (x.1.2.2.2.2.1, (IntKind.wrap .i64 (x.2 - r48)))) fun r49 =>
        Option.bind (f36 k (r32.1, r49.1)) fun r50 =>
        some (r50, (0 : Int), (x.1.1, x.1.2.1, x.1.2.2.1, x.1.2.2.2.1, r32.2.1.1, r32.2.1.2.1, r32.2.1.2.2.1, r32.2.1.2.2.2.1, r32.2.1.2.2.2.2.1, r32.2.1.2.2.2.2.2.1, r32.2.1.2.2.2.2.2.2, x.1.2.2.2.2.2.2.2.2.2.2.2.1, x.1.2.2.2.2.2.2.2.2.2.2.2.2.1, x.1.2.2.2.2.2.2.2.2.2.2.2.2.2.1, x.1.2.2.2.2.2.2.2.2.2.2.2.2.2.2.1, x.1.2.2.2.2.2.2.2.2.2.2.2.2.2.2.2.1, x.1.2.2.2.2.2.2.2.2.2.2.2.2.2.2.2.2.1, (IntKind.wrap .i64 (x.1.2.2.2.2.2.2.2.2.2.2.2.2.2.2.2.2.2.1 + x.2)), (IntKind.wrap .i64 (x.1.2.2.2.2.2.2.2.2.2.2.2.2.2.2.2.2.2.2 + (0 : Int)))), (0 : Int))
    else
    bif (x.1.2.1 == (5 : Int)) then
      bif ((((r32.2.1.2.2.2.2.2.2).length : Int)) == (0 : Int)) then
        Option.bind (f42 k r32.1) fun r51 =>
        Option.bind (f30 k (x.1.2.2.2.2.1, (IntKind.wrap .i64 (x.2 - r51)))) fun r52 =>
        Option.bind (f36 k (r32.1, r52.1)) fun r53 =>
        some (r53, (0 : Int), (x.1.1, (6 : Int), x.1.2.2.1, x.1.2.2.2.1, r32.2.1.1, r32.2.1.2.1, r32.2.1.2.2.1, r32.2.1.2.2.2.1, r32.2.1.2.2.2.2.1, r32.2.1.2.2.2.2.2.1, r32.2.1.2.2.2.2.2.2, x.1.2.2.2.2.2.2.2.2.2.2.2), (0 : Int))
      else
        Option.bind (f42 k r32.1) fun r54 =>
        Option.bind (f30 k (x.1.2.2.2.2.1, (IntKind.wrap .i64 (x.2 - r54)))) fun r55 =>
        Option.bind (f36 k (r32.1, r55.1)) fun r56 =>
        some (r56, (0 : Int), (x.1.1, x.1.2.1, x.1.2.2.1, x.1.2.2.2.1, r32.2.1.1, r32.2.1.2.1, r32.2.1.2.2.1, r32.2.1.2.2.2.1, r32.2.1.2.2.2.2.1, r32.2.1.2.2.2.2.2.1, r32.2.1.2.2.2.2.2.2, x.1.2.2.2.2.2.2.2.2.2.2.2), (0 : Int))
    else
      Option.bind (f42 k r32.1) fun r57 =>
      Option.bind (f30 k (x.1.2.2.2.2.1, (IntKind.wrap .i64 (x.2 - r57)))) fun r58 =>
      Option.bind (f36 k (r32.1, r58.1)) fun r59 =>
      some (r59, (0 : Int), (x.1.1, x.1.2.1, x.1.2.2.1, x.1.2.2.2.1, r32.2.1.1, r32.2.1.2.1, r32.2.1.2.2.1, r32.2.1.2.2.2.1, r32.2.1.2.2.2.2.1, r32.2.1.2.2.2.2.2.1, r32.2.1.2.2.2.2.2.2, x.1.2.2.2.2.2.2.2.2.2.2.2), (0 : Int))
  else
  bif ((0 : Int) != (0 : Int)) then
    some (((0 : Int), []), (0 : Int), ((0 : Int), (0 : Int), (0 : Int), (0 : Int), (0 : Int), (0 : Int), (0 : Int), (0 : Int), (0 : Int), (0 : Int), [], (0 : Int), (0 : Int), (0 : Int), (0 : Int), [], (0 : Int), (0 : Int), (0 : Int)), (0 : Int))
  else
  bif (x.1.2.1 == (3 : Int)) then
    bif (x.1.2.1 == (5 : Int)) then
      bif ((((x.1.2.2.2.2.2.2.2.2.2.2.1).length : Int)) == (0 : Int)) then
        Option.bind (f42 k (x.1.2.2.2.2.1, [])) fun r60 =>
        Option.bind (f30 k (x.1.2.2.2.2.1, (IntKind.wrap .i64 (x.2 - r60)))) fun r61 =>
        Option.bind (f36 k ((x.1.2.2.2.2.1, []), r61.1)) fun r62 =>
        some (r62, (0 : Int), (x.1.1, (6 : Int), x.1.2.2.1, x.1.2.2.2.1, x.1.2.2.2.2.1, x.1.2.2.2.2.2.1, x.1.2.2.2.2.2.2.1, x.1.2.2.2.2.2.2.2.1, x.1.2.2.2.2.2.2.2.2.1, x.1.2.2.2.2.2.2.2.2.2.1, x.1.2.2.2.2.2.2.2.2.2.2.1, x.1.2.2.2.2.2.2.2.2.2.2.2.1, x.1.2.2.2.2.2.2.2.2.2.2.2.2.1, x.1.2.2.2.2.2.2.2.2.2.2.2.2.2.1, x.1.2.2.2.2.2.2.2.2.2.2.2.2.2.2.1, x.1.2.2.2.2.2.2.2.2.2.2.2.2.2.2.2.1, x.1.2.2.2.2.2.2.2.2.2.2.2.2.2.2.2.2.1, (IntKind.wrap .i64 (x.1.2.2.2.2.2.2.2.2.2.2.2.2.2.2.2.2.2.1 + x.2)), (IntKind.wrap .i64 (x.1.2.2.2.2.2.2.2.2.2.2.2.2.2.2.2.2.2.2 + (0 : Int)))), (0 : Int))
      else
        Option.bind (f42 k (x.1.2.2.2.2.1, [])) fun r63 =>
        Option.bind (f30 k (x.1.2.2.2.2.1, (IntKind.wrap .i64 (x.2 - r63)))) fun r64 =>
        Option.bind (f36 k ((x.1.2.2.2.2.1, []), r64.1)) fun r65 =>
        some (r65, (0 : Int), (x.1.1, x.1.2.1, x.1.2.2.1, x.1.2.2.2.1, x.1.2.2.2.2.1, x.1.2.2.2.2.2.1, x.1.2.2.2.2.2.2.1, x.1.2.2.2.2.2.2.2.1, x.1.2.2.2.2.2.2.2.2.1, x.1.2.2.2.2.2.2.2.2.2.1, x.1.2.2.2.2.2.2.2.2.2.2.1, x.1.2.2.2.2.2.2.2.2.2.2.2.1, x.1.2.2.2.2.2.2.2.2.2.2.2.2.1, x.1.2.2.2.2.2.2.2.2.2.2.2.2.2.1, x.1.2.2.2.2.2.2.2.2.2.2.2.2.2.2.1, x.1.2.2.2.2.2.2.2.2.2.2.2.2.2.2.2.1, x.1.2.2.2.2.2.2.2.2.2.2.2.2.2.2.2.2.1, (IntKind.wrap .i64 (x.1.2.2.2.2.2.2.2.2.2.2.2.2.2.2.2.2.2.1 + x.2)), (IntKind.wrap .i64 (x.1.2.2.2.2.2.2.2.2.2.2.2.2.2.2.2.2.2.2 + (0 : Int)))), (0 : Int))
    else
      Option.bind (f42 k (x.1.2.2.2.2.1, [])) fun r66 =>
      Option.bind (f30 k (x.1.2.2.2.2.1, (IntKind.wrap .i64 (x.2 - r66)))) fun r67 =>
      Option.bind (f36 k ((x.1.2.2.2.2.1, []), r67.1)) fun r68 =>
      some (r68, (0 : Int), (x.1.1, x.1.2.1, x.1.2.2.1, x.1.2.2.2.1, x.1.2.2.2.2.1, x.1.2.2.2.2.2.1, x.1.2.2.2.2.2.2.1, x.1.2.2.2.2.2.2.2.1, x.1.2.2.2.2.2.2.2.2.1, x.1.2.2.2.2.2.2.2.2.2.1, x.1.2.2.2.2.2.2.2.2.2.2.1, x.1.2.2.2.2.2.2.2.2.2.2.2.1, x.1.2.2.2.2.2.2.2.2.2.2.2.2.1, x.1.2.2.2.2.2.2.2.2.2.2.2.2.2.1, x.1.2.2.2.2.2.2.2.2.2.2.2.2.2.2.1, x.1.2.2.2.2.2.2.2.2.2.2.2.2.2.2.2.1, x.1.2.2.2.2.2.2.2.2.2.2.2.2.2.2.2.2.1, (IntKind.wrap .i64 (x.1.2.2.2.2.2.2.2.2.2.2.2.2.2.2.2.2.2.1 + x.2)), (IntKind.wrap .i64 (x.1.2.2.2.2.2.2.2.2.2.2.2.2.2.2.2.2.2.2 + (0 : Int)))), (0 : Int))
  else
  bif (x.1.2.1 == (5 : Int)) then
    bif (x.1.2.1 == (5 : Int)) then
      bif ((((x.1.2.2.2.2.2.2.2.2.2.2.1).length : Int)) == (0 : Int)) then
        Option.bind (f42 k (x.1.2.2.2.2.1, [])) fun r69 =>
        Option.bind (f30 k (x.1.2.2.2.2.1, (IntKind.wrap .i64 (x.2 - r69)))) fun r70 =>
        Option.bind (f36 k ((x.1.2.2.2.2.1, []), r70.1)) fun r71 =>
        some (r71, (0 : Int), (x.1.1, (6 : Int), x.1.2.2.1, x.1.2.2.2.1, x.1.2.2.2.2.1, x.1.2.2.2.2.2.1, x.1.2.2.2.2.2.2.1, x.1.2.2.2.2.2.2.2.1, x.1.2.2.2.2.2.2.2.2.1, x.1.2.2.2.2.2.2.2.2.2.1, x.1.2.2.2.2.2.2.2.2.2.2.1, x.1.2.2.2.2.2.2.2.2.2.2.2.1, x.1.2.2.2.2.2.2.2.2.2.2.2.2.1, x.1.2.2.2.2.2.2.2.2.2.2.2.2.2.1, x.1.2.2.2.2.2.2.2.2.2.2.2.2.2.2.1, x.1.2.2.2.2.2.2.2.2.2.2.2.2.2.2.2.1, x.1.2.2.2.2.2.2.2.2.2.2.2.2.2.2.2.2.1, (IntKind.wrap .i64 (x.1.2.2.2.2.2.2.2.2.2.2.2.2.2.2.2.2.2.1 + x.2)), (IntKind.wrap .i64 (x.1.2.2.2.2.2.2.2.2.2.2.2.2.2.2.2.2.2.2 + (0 : Int)))), (0 : Int))
      else
        Option.bind (f42 k (x.1.2.2.2.2.1, [])) fun r72 =>
        Option.bind (f30 k (x.1.2.2.2.2.1, (IntKind.wrap .i64 (x.2 - r72)))) fun r73 =>
        Option.bind (f36 k ((x.1.2.2.2.2.1, []), r73.1)) fun r74 =>
        some (r74, (0 : Int), (x.1.1, x.1.2.1, x.1.2.2.1, x.1.2.2.2.1, x.1.2.2.2.2.1, x.1.2.2.2.2.2.1, x.1.2.2.2.2.2.2.1, x.1.2.2.2.2.2.2.2.1, x.1.2.2.2.2.2.2.2.2.1, x.1.2.2.2.2.2.2.2.2.2.1, x.1.2.2.2.2.2.2.2.2.2.2.1, x.1.2.2.2.2.2.2.2.2.2.2.2.1, x.1.2.2.2.2.2.2.2.2.2.2.2.2.1, x.1.2.2.2.2.2.2.2.2.2.2.2.2.2.1, x.1.2.2.2.2.2.2.2.2.2.2.2.2.2.2.1, x.1.2.2.2.2.2.2.2.2.2.2.2.2.2.2.2.1, x.1.2.2.2.2.2.2.2.2.2.2.2.2.2.2.2.2.1, (IntKind.wrap .i64 (x.1.2.2.2.2.2.2.2.2.2.2.2.2.2.2.2.2.2.1 + x.2)), (IntKind.wrap .i64 (x.1.2.2.2.2.2.2.2.2.2.2.2.2.2.2.2.2.2.2 + (0 : Int)))), (0 : Int))
    else
      Option.bind (f42 k (x.1.2.2.2.2.1, [])) fun r75 =>
      Option.bind (f30 k (x.1.2.2.2.2.1, (IntKind.wrap .i64 (x.2 - r75)))) fun r76 =>
      Option.bind (f36 k ((x.1.2.2.2.2.1, []), r76.1)) fun r77 =>
      some (r77, (0 : Int), (x.1.1, x.1.2.1, x.1.2.2.1, x.1.2.2.2.1, x.1.2.2.2.2.1, x.1.2.2.2.2.2.1, x.1.2.2.2.2.2.2.1, x.1.2.2.2.2.2.2.2.1, x.1.2.2.2.2.2.2.2.2.1, x.1.2.2.2.2.2.2.2.2.2.1, x.1.2.2.2.2.2.2.2.2.2.2.1, x.1.2.2.2.2.2.2.2.2.2.2.2.1, x.1.2.2.2.2.2.2.2.2.2.2.2.2.1, x.1.2.2.2.2.2.2.2.2.2.2.2.2.2.1, x.1.2.2.2.2.2.2.2.2.2.2.2.2.2.2.1, x.1.2.2.2.2.2.2.2.2.2.2.2.2.2.2.2.1, x.1.2.2.2.2.2.2.2.2.2.2.2.2.2.2.2.2.1, (IntKind.wrap .i64 (x.1.2.2.2.2.2.2.2.2.2.2.2.2.2.2.2.2.2.1 + x.2)), (IntKind.wrap .i64 (x.1.2.2.2.2.2.2.2.2.2.2.2.2.2.2.2.2.2.2 + (0 : Int)))), (0 : Int))
  else
  bif (x.1.2.1 == (5 : Int)) then
    bif ((((x.1.2.2.2.2.2.2.2.2.2.2.1).length : Int)) == (0 : Int)) then
      Option.bind (f42 k (x.1.2.2.2.2.1, [])) fun r78 =>
      Option.bind (f30 k (x.1.2.2.2.2.1, (IntKind.wrap .i64 (x.2 - r78)))) fun r79 =>
      Option.bind (f36 k ((x.1.2.2.2.2.1, []), r79.1)) fun r80 =>
      some (r80, (0 : Int), (x.1.1, (6 : Int), x.1.2.2), (0 : Int))
    else
      Option.bind (f42 k (x.1.2.2.2.2.1, [])) fun r81 =>
      Option.bind (f30 k (x.1.2.2.2.2.1, (IntKind.wrap .i64 (x.2 - r81)))) fun r82 =>
      Option.bind (f36 k ((x.1.2.2.2.2.1, []), r82.1)) fun r83 =>
      some (r83, (0 : Int), x.1, (0 : Int))
  else
    Option.bind (f42 k (x.1.2.2.2.2.1, [])) fun r84 =>
    Option.bind (f30 k (x.1.2.2.2.2.1, (IntKind.wrap .i64 (x.2 - r84)))) fun r85 =>
    Option.bind (f36 k ((x.1.2.2.2.2.1, []), r85.1)) fun r86 =>
    some (r86, (0 : Int), x.1, (0 : Int))
/-- soundservice/soundserviceref20.records -/
noncomputable def f133 (k : Nat) (x : Int × Int × Int × Int × Int × Int × Int × Int × Int × Int × List (Int) × Int × Int × Int × Int × List (Int) × Int × Int × Int) : Option (Bool) :=
  Option.bind (f48 k x) fun r1 =>
  bif r1 then
    some (x.1 == (2 : Int))
  else
    some false
/-- soundservice/soundserviceref15.Convert -/
noncomputable def f38 (k : Nat) (x : (Int × Int × Int × Int × Int × Int × List (Int)) × Int × List (Int)) : Option ((Int × List (Int)) × (Int × Int × Int × Int × Int × Int × List (Int)) × Int) :=
  Option.bind (f113 k x) fun r1 =>
  bif (r1.2 != (0 : Int)) then
    some (((0 : Int), []), ((0 : Int), (0 : Int), (0 : Int), (0 : Int), (0 : Int), (0 : Int), []), r1.2)
  else
    Option.bind (f115 k r1.1) fun r2 =>
    Option.bind (f114 k ((r1.1.2.1, r1.1.2.2.1, r1.1.2.2.2.1, r1.1.2.2.2.2.1, r1.1.2.2.2.2.2.1), r2)) fun r3 =>
    Option.bind (f116 k (r1.1, r3.1)) fun r4 =>
    some r4
/-- soundservice/soundserviceref17.Write -/
noncomputable def f139 (k : Nat) (x : (Int × Int × Int × Int × List (Int)) × Int × List (Int)) : Option ((Int × Int × Int × Int × List (Int)) × Int × Int) :=
  Option.bind (f127 k x.1) fun r1 =>
  bif (!r1) then
    some (((0 : Int), (0 : Int), (0 : Int), (0 : Int), []), (0 : Int), (1 : Int))
  else
    Option.bind (f25 k x.2) fun r2 =>
    bif (!r2) then
      some (((0 : Int), (0 : Int), (0 : Int), (0 : Int), []), (0 : Int), (1 : Int))
    else
    bif (x.2.1 != x.1.1) then
      some (((0 : Int), (0 : Int), (0 : Int), (0 : Int), []), (0 : Int), (11 : Int))
    else
      Option.bind (f42 k x.2) fun r3 =>
      Option.bind (f129 k x.1) fun r4 =>
      bif (decide ((IntKind.wrap .i64 (x.1.2.2.1 + (if (IntKind.wrap .i64 (x.1.2.1 - r4)) < r3 then (IntKind.wrap .i64 (x.1.2.1 - r4)) else r3))) > (1125899906842624 : Int))) then
        some (((0 : Int), (0 : Int), (0 : Int), (0 : Int), []), (0 : Int), (2 : Int))
      else
      bif (decide ((x.1.2.2.2.2).length * 4 ≤ maxBytes) && decide ((x.1.2.2.2.2).length ≤ 9223372036854775807)) then
        bif (decide (0 ≤ (0 : Int)) && decide ((0 : Int) ≤ (IntKind.wrap .i64 ((if (IntKind.wrap .i64 (x.1.2.1 - r4)) < r3 then (IntKind.wrap .i64 (x.1.2.1 - r4)) else r3) * x.2.1))) && decide ((IntKind.wrap .i64 ((if (IntKind.wrap .i64 (x.1.2.1 - r4)) < r3 then (IntKind.wrap .i64 (x.1.2.1 - r4)) else r3) * x.2.1)) ≤ (IntKind.wrap .i64 ((if (IntKind.wrap .i64 (x.1.2.1 - r4)) < r3 then (IntKind.wrap .i64 (x.1.2.1 - r4)) else r3) * x.2.1))) && decide ((IntKind.wrap .i64 ((if (IntKind.wrap .i64 (x.1.2.1 - r4)) < r3 then (IntKind.wrap .i64 (x.1.2.1 - r4)) else r3) * x.2.1)) ≤ (((x.2.2).length : Int)))) then
          bif (decide (((x.1.2.2.2.2).length + ((((x.2.2).take ((IntKind.wrap .i64 ((if (IntKind.wrap .i64 (x.1.2.1 - r4)) < r3 then (IntKind.wrap .i64 (x.1.2.1 - r4)) else r3) * x.2.1))).toNat).drop ((0 : Int)).toNat)).length) * 4 ≤ maxBytes) && decide ((x.1.2.2.2.2).length + ((((x.2.2).take ((IntKind.wrap .i64 ((if (IntKind.wrap .i64 (x.1.2.1 - r4)) < r3 then (IntKind.wrap .i64 (x.1.2.1 - r4)) else r3) * x.2.1))).toNat).drop ((0 : Int)).toNat)).length ≤ 9223372036854775807)) then
            some ((x.1.1, x.1.2.1, (IntKind.wrap .i64 (x.1.2.2.1 + (if (IntKind.wrap .i64 (x.1.2.1 - r4)) < r3 then (IntKind.wrap .i64 (x.1.2.1 - r4)) else r3))), x.1.2.2.2.1, (x.1.2.2.2.2 ++ (((x.2.2).take ((IntKind.wrap .i64 ((if (IntKind.wrap .i64 (x.1.2.1 - r4)) < r3 then (IntKind.wrap .i64 (x.1.2.1 - r4)) else r3) * x.2.1))).toNat).drop ((0 : Int)).toNat))), (IntKind.wrap .i64 (r3 - (if (IntKind.wrap .i64 (x.1.2.1 - r4)) < r3 then (IntKind.wrap .i64 (x.1.2.1 - r4)) else r3))), (0 : Int))
          else
            none
        else
          none
      else
        none
/-- soundservice/soundserviceref20.Give -/
noncomputable def f64 (k : Nat) (x : (Int × Int × Int × Int × Int × Int × Int × Int × Int × Int × List (Int) × Int × Int × Int × Int × List (Int) × Int × Int × Int) × Int × List (Int)) : Option (Int × (Int × Int × Int × Int × Int × Int × Int × Int × Int × Int × List (Int) × Int × Int × Int × Int × List (Int) × Int × Int × Int) × Int) :=
  Option.bind (f133 k x.1) fun r1 =>
  bif (!r1) then
    some ((0 : Int), ((0 : Int), (0 : Int), (0 : Int), (0 : Int), (0 : Int), (0 : Int), (0 : Int), (0 : Int), (0 : Int), (0 : Int), [], (0 : Int), (0 : Int), (0 : Int), (0 : Int), [], (0 : Int), (0 : Int), (0 : Int)), (1 : Int))
  else
    Option.bind (f25 k x.2) fun r2 =>
    bif (!r2) then
      some ((0 : Int), ((0 : Int), (0 : Int), (0 : Int), (0 : Int), (0 : Int), (0 : Int), (0 : Int), (0 : Int), (0 : Int), (0 : Int), [], (0 : Int), (0 : Int), (0 : Int), (0 : Int), [], (0 : Int), (0 : Int), (0 : Int)), (1 : Int))
    else
    bif (x.2.1 != x.1.2.2.2.2.1) then
      some ((0 : Int), ((0 : Int), (0 : Int), (0 : Int), (0 : Int), (0 : Int), (0 : Int), (0 : Int), (0 : Int), (0 : Int), (0 : Int), [], (0 : Int), (0 : Int), (0 : Int), (0 : Int), [], (0 : Int), (0 : Int), (0 : Int)), (11 : Int))
    else
    bif (x.1.2.1 != (3 : Int)) then
      some ((0 : Int), x.1, (0 : Int))
    else
      Option.bind (f38 k ((x.1.2.2.2.2.1, x.1.2.2.2.2.2.1, x.1.2.2.2.2.2.2.1, x.1.2.2.2.2.2.2.2.1, x.1.2.2.2.2.2.2.2.2.1, x.1.2.2.2.2.2.2.2.2.2.1, x.1.2.2.2.2.2.2.2.2.2.2.1), x.2)) fun r3 =>
      bif (r3.2.2 != (0 : Int)) then
        some ((0 : Int), ((0 : Int), (0 : Int), (0 : Int), (0 : Int), (0 : Int), (0 : Int), (0 : Int), (0 : Int), (0 : Int), (0 : Int), [], (0 : Int), (0 : Int), (0 : Int), (0 : Int), [], (0 : Int), (0 : Int), (0 : Int)), r3.2.2)
      else
        Option.bind (f139 k ((x.1.2.2.2.2.2.2.2.2.2.2.2.1, x.1.2.2.2.2.2.2.2.2.2.2.2.2.1, x.1.2.2.2.2.2.2.2.2.2.2.2.2.2.1, x.1.2.2.2.2.2.2.2.2.2.2.2.2.2.2.1, x.1.2.2.2.2.2.2.2.2.2.2.2.2.2.2.2.1), r3.1)) fun r4 =>
        bif (r4.2.2 != (0 : Int)) then
          some ((0 : Int), ((0 : Int), (0 : Int), (0 : Int), (0 : Int), (0 : Int), (0 : Int), (0 : Int), (0 : Int), (0 : Int), (0 : Int), [], (0 : Int), (0 : Int), (0 : Int), (0 : Int), [], (0 : Int), (0 : Int), (0 : Int)), r4.2.2)
        else
          Option.bind (f42 k x.2) fun r5 =>
          some (r4.2.1, (x.1.1, x.1.2.1, x.1.2.2.1, x.1.2.2.2.1, r3.2.1.1, r3.2.1.2.1, r3.2.1.2.2.1, r3.2.1.2.2.2.1, r3.2.1.2.2.2.2.1, r3.2.1.2.2.2.2.2.1, r3.2.1.2.2.2.2.2.2, r4.1.1, r4.1.2.1, r4.1.2.2.1, r4.1.2.2.2.1, r4.1.2.2.2.2, x.1.2.2.2.2.2.2.2.2.2.2.2.2.2.2.2.2.1, (IntKind.wrap .i64 (x.1.2.2.2.2.2.2.2.2.2.2.2.2.2.2.2.2.2.1 + r5)), (IntKind.wrap .i64 (x.1.2.2.2.2.2.2.2.2.2.2.2.2.2.2.2.2.2.2 + r4.2.1))), (0 : Int))
/-- soundservice/soundserviceref17.Read -/
noncomputable def f134 (k : Nat) (x : (Int × Int × Int × Int × List (Int)) × Int) : Option ((Int × List (Int)) × Int × (Int × Int × Int × Int × List (Int)) × Int) :=
  Option.bind (f127 k x.1) fun r1 =>
  bif (!r1) then
    some (((0 : Int), []), (0 : Int), ((0 : Int), (0 : Int), (0 : Int), (0 : Int), []), (1 : Int))
  else
  bif (decide (x.2 < (0 : Int))) then
    some (((0 : Int), []), (0 : Int), ((0 : Int), (0 : Int), (0 : Int), (0 : Int), []), (2 : Int))
  else
  bif (decide (x.2 > (65536 : Int))) then
    some (((0 : Int), []), (0 : Int), ((0 : Int), (0 : Int), (0 : Int), (0 : Int), []), (2 : Int))
  else
    Option.bind (f129 k x.1) fun r2 =>
    bif (decide (0 ≤ (0 : Int)) && decide ((0 : Int) ≤ (IntKind.wrap .i64 ((if r2 < x.2 then r2 else x.2) * x.1.1))) && decide ((IntKind.wrap .i64 ((if r2 < x.2 then r2 else x.2) * x.1.1)) ≤ (IntKind.wrap .i64 ((if r2 < x.2 then r2 else x.2) * x.1.1))) && decide ((IntKind.wrap .i64 ((if r2 < x.2 then r2 else x.2) * x.1.1)) ≤ (((x.1.2.2.2.2).length : Int)))) then
      bif (decide (((((x.1.2.2.2.2).take ((IntKind.wrap .i64 ((if r2 < x.2 then r2 else x.2) * x.1.1))).toNat).drop ((0 : Int)).toNat)).length * 4 ≤ maxBytes) && decide (((((x.1.2.2.2.2).take ((IntKind.wrap .i64 ((if r2 < x.2 then r2 else x.2) * x.1.1))).toNat).drop ((0 : Int)).toNat)).length ≤ 9223372036854775807)) then
        bif (decide (0 ≤ (IntKind.wrap .i64 ((IntKind.wrap .i64 (x.2 - (if r2 < x.2 then r2 else x.2))) * x.1.1))) && decide ((IntKind.wrap .i64 ((IntKind.wrap .i64 (x.2 - (if r2 < x.2 then r2 else x.2))) * x.1.1)) ≤ 9223372036854775807)) then
          bif (decide ((((((x.1.2.2.2.2).take ((IntKind.wrap .i64 ((if r2 < x.2 then r2 else x.2) * x.1.1))).toNat).drop ((0 : Int)).toNat)).length + ((List.replicate ((IntKind.wrap .i64 ((IntKind.wrap .i64 (x.2 - (if r2 < x.2 then r2 else x.2))) * x.1.1))).toNat (0 : Int))).length) * 4 ≤ maxBytes) && decide (((((x.1.2.2.2.2).take ((IntKind.wrap .i64 ((if r2 < x.2 then r2 else x.2) * x.1.1))).toNat).drop ((0 : Int)).toNat)).length + ((List.replicate ((IntKind.wrap .i64 ((IntKind.wrap .i64 (x.2 - (if r2 < x.2 then r2 else x.2))) * x.1.1))).toNat (0 : Int))).length ≤ 9223372036854775807)) then
            bif (decide (0 ≤ (IntKind.wrap .i64 ((if r2 < x.2 then r2 else x.2) * x.1.1))) && decide ((IntKind.wrap .i64 ((if r2 < x.2 then r2 else x.2) * x.1.1)) ≤ (((x.1.2.2.2.2).length : Int))) && decide ((((x.1.2.2.2.2).length : Int)) ≤ (((x.1.2.2.2.2).length : Int))) && decide ((((x.1.2.2.2.2).length : Int)) ≤ (((x.1.2.2.2.2).length : Int)))) then
              bif (decide (((((x.1.2.2.2.2).take ((((x.1.2.2.2.2).length : Int))).toNat).drop ((IntKind.wrap .i64 ((if r2 < x.2 then r2 else x.2) * x.1.1))).toNat)).length * 4 ≤ maxBytes) && decide (((((x.1.2.2.2.2).take ((((x.1.2.2.2.2).length : Int))).toNat).drop ((IntKind.wrap .i64 ((if r2 < x.2 then r2 else x.2) * x.1.1))).toNat)).length ≤ 9223372036854775807)) then
                some ((x.1.1, ((((x.1.2.2.2.2).take ((IntKind.wrap .i64 ((if r2 < x.2 then r2 else x.2) * x.1.1))).toNat).drop ((0 : Int)).toNat) ++ (List.replicate ((IntKind.wrap .i64 ((IntKind.wrap .i64 (x.2 - (if r2 < x.2 then r2 else x.2))) * x.1.1))).toNat (0 : Int)))), (IntKind.wrap .i64 (x.2 - (if r2 < x.2 then r2 else x.2))), (x.1.1, x.1.2.1, x.1.2.2.1, (IntKind.wrap .i64 (x.1.2.2.2.1 + (if r2 < x.2 then r2 else x.2))), (((x.1.2.2.2.2).take ((((x.1.2.2.2.2).length : Int))).toNat).drop ((IntKind.wrap .i64 ((if r2 < x.2 then r2 else x.2) * x.1.1))).toNat)), (0 : Int))
              else
                none
            else
              none
          else
            none
        else
          none
      else
        none
    else
      none
/-- soundservice/soundserviceref20.Read -/
noncomputable def f59 (k : Nat) (x : (Int × Int × Int × Int × Int × Int × Int × Int × Int × Int × List (Int) × Int × Int × Int × Int × List (Int) × Int × Int × Int) × Int) : Option ((Int × List (Int)) × (Int × Int × Int × Int × Int × Int × Int × Int × Int × Int × List (Int) × Int × Int × Int × Int × List (Int) × Int × Int × Int) × Int) :=
  Option.bind (f133 k x.1) fun r1 =>
  bif (!r1) then
    some (((0 : Int), []), ((0 : Int), (0 : Int), (0 : Int), (0 : Int), (0 : Int), (0 : Int), (0 : Int), (0 : Int), (0 : Int), (0 : Int), [], (0 : Int), (0 : Int), (0 : Int), (0 : Int), [], (0 : Int), (0 : Int), (0 : Int)), (1 : Int))
  else
  bif (decide (x.2 < (0 : Int))) then
    some (((0 : Int), []), ((0 : Int), (0 : Int), (0 : Int), (0 : Int), (0 : Int), (0 : Int), (0 : Int), (0 : Int), (0 : Int), (0 : Int), [], (0 : Int), (0 : Int), (0 : Int), (0 : Int), [], (0 : Int), (0 : Int), (0 : Int)), (2 : Int))
  else
  bif (decide (x.2 > (65536 : Int))) then
    some (((0 : Int), []), ((0 : Int), (0 : Int), (0 : Int), (0 : Int), (0 : Int), (0 : Int), (0 : Int), (0 : Int), (0 : Int), (0 : Int), [], (0 : Int), (0 : Int), (0 : Int), (0 : Int), [], (0 : Int), (0 : Int), (0 : Int)), (2 : Int))
  else
  bif (x.1.2.1 == (7 : Int)) then
    some (((0 : Int), []), ((0 : Int), (0 : Int), (0 : Int), (0 : Int), (0 : Int), (0 : Int), (0 : Int), (0 : Int), (0 : Int), (0 : Int), [], (0 : Int), (0 : Int), (0 : Int), (0 : Int), [], (0 : Int), (0 : Int), (0 : Int)), (9 : Int))
  else
    Option.bind (f50 k x.1) fun r2 =>
    Option.bind (f134 k ((x.1.2.2.2.2.2.2.2.2.2.2.2.1, x.1.2.2.2.2.2.2.2.2.2.2.2.2.1, x.1.2.2.2.2.2.2.2.2.2.2.2.2.2.1, x.1.2.2.2.2.2.2.2.2.2.2.2.2.2.2.1, x.1.2.2.2.2.2.2.2.2.2.2.2.2.2.2.2.1), (if r2 < x.2 then r2 else x.2))) fun r3 =>
    some (r3.1, (x.1.1, x.1.2.1, x.1.2.2.1, x.1.2.2.2.1, x.1.2.2.2.2.1, x.1.2.2.2.2.2.1, x.1.2.2.2.2.2.2.1, x.1.2.2.2.2.2.2.2.1, x.1.2.2.2.2.2.2.2.2.1, x.1.2.2.2.2.2.2.2.2.2.1, x.1.2.2.2.2.2.2.2.2.2.2.1, r3.2.2.1.1, r3.2.2.1.2.1, r3.2.2.1.2.2.1, r3.2.2.1.2.2.2.1, r3.2.2.1.2.2.2.2, (IntKind.wrap .i64 (x.1.2.2.2.2.2.2.2.2.2.2.2.2.2.2.2.2.1 + (if r2 < x.2 then r2 else x.2))), x.1.2.2.2.2.2.2.2.2.2.2.2.2.2.2.2.2.2), (0 : Int))
/-- soundservice/soundserviceref17.Clear -/
noncomputable def f200 (k : Nat) (x : Int × Int × Int × Int × List (Int)) : Option ((Int × Int × Int × Int × List (Int)) × Int) :=
  Option.bind (f127 k x) fun r1 =>
  bif (!r1) then
    some (((0 : Int), (0 : Int), (0 : Int), (0 : Int), []), (1 : Int))
  else
    some ((x.1, x.2.1, x.2.2.1, x.2.2.1, []), (0 : Int))
/-- soundservice/soundserviceref20.empty -/
noncomputable def f135 (k : Nat) (x : Int × Int × Int × Int × Int × Int × Int × Int × Int × Int × List (Int) × Int × Int × Int × Int × List (Int) × Int × Int × Int) : Option (Int × Int × Int × Int × Int × Int × Int × Int × Int × Int × List (Int) × Int × Int × Int × Int × List (Int) × Int × Int × Int) :=
  Option.bind (f37 k (x.2.2.2.2.1, x.2.2.2.2.2.1, x.2.2.2.2.2.2.1)) fun r1 =>
  bif (x.1 == (2 : Int)) then
    Option.bind (f200 k (x.2.2.2.2.2.2.2.2.2.2.2.1, x.2.2.2.2.2.2.2.2.2.2.2.2.1, x.2.2.2.2.2.2.2.2.2.2.2.2.2.1, x.2.2.2.2.2.2.2.2.2.2.2.2.2.2.1, x.2.2.2.2.2.2.2.2.2.2.2.2.2.2.2.1)) fun r2 =>
    some (x.1, x.2.1, x.2.2.1, x.2.2.2.1, r1.1.1, r1.1.2.1, r1.1.2.2.1, r1.1.2.2.2.1, r1.1.2.2.2.2.1, r1.1.2.2.2.2.2.1, r1.1.2.2.2.2.2.2, r2.1.1, r2.1.2.1, r2.1.2.2.1, r2.1.2.2.2.1, r2.1.2.2.2.2, x.2.2.2.2.2.2.2.2.2.2.2.2.2.2.2.2)
  else
    some (x.1, x.2.1, x.2.2.1, x.2.2.2.1, r1.1.1, r1.1.2.1, r1.1.2.2.1, r1.1.2.2.2.1, r1.1.2.2.2.2.1, r1.1.2.2.2.2.2.1, r1.1.2.2.2.2.2.2, x.2.2.2.2.2.2.2.2.2.2.2)
/-- soundservice/soundserviceref20.Do -/
noncomputable def f60 (k : Nat) (x : (Int × Int × Int × Int × Int × Int × Int × Int × Int × Int × List (Int) × Int × Int × Int × Int × List (Int) × Int × Int × Int) × Int) : Option ((Int × Int × Int × Int × Int × Int × Int × Int × Int × Int × List (Int) × Int × Int × Int × Int × List (Int) × Int × Int × Int) × Int) :=
  Option.bind (f48 k x.1) fun r1 =>
  bif (!r1) then
    some (((0 : Int), (0 : Int), (0 : Int), (0 : Int), (0 : Int), (0 : Int), (0 : Int), (0 : Int), (0 : Int), (0 : Int), [], (0 : Int), (0 : Int), (0 : Int), (0 : Int), [], (0 : Int), (0 : Int), (0 : Int)), (1 : Int))
  else
  bif (decide (x.2 < (1 : Int))) then
    some (((0 : Int), (0 : Int), (0 : Int), (0 : Int), (0 : Int), (0 : Int), (0 : Int), (0 : Int), (0 : Int), (0 : Int), [], (0 : Int), (0 : Int), (0 : Int), (0 : Int), [], (0 : Int), (0 : Int), (0 : Int)), (1 : Int))
  else
  bif (decide (x.2 > (7 : Int))) then
    some (((0 : Int), (0 : Int), (0 : Int), (0 : Int), (0 : Int), (0 : Int), (0 : Int), (0 : Int), (0 : Int), (0 : Int), [], (0 : Int), (0 : Int), (0 : Int), (0 : Int), [], (0 : Int), (0 : Int), (0 : Int)), (1 : Int))
  else
  bif (x.2 == (1 : Int)) then
    bif (x.1.2.1 == (2 : Int)) then
      bif (x.2 == (1 : Int)) then
        bif (x.1.2.1 == (2 : Int)) then
          bif (x.1.1 == (1 : Int)) then
            Option.bind (f50 k (x.1.1, (3 : Int), x.1.2.2)) fun r2 =>
            bif (decide (r2 < x.1.2.2.2.1)) then
              some (((0 : Int), (0 : Int), (0 : Int), (0 : Int), (0 : Int), (0 : Int), (0 : Int), (0 : Int), (0 : Int), (0 : Int), [], (0 : Int), (0 : Int), (0 : Int), (0 : Int), [], (0 : Int), (0 : Int), (0 : Int)), (4 : Int))
            else
            bif (decide (x.2 ≥ (5 : Int))) then
              Option.bind (f135 k (x.1.1, (3 : Int), x.1.2.2)) fun r3 =>
              some (r3, (0 : Int))
            else
              some ((x.1.1, (3 : Int), x.1.2.2), (0 : Int))
          else
          bif (decide (x.2 ≥ (5 : Int))) then
            Option.bind (f135 k (x.1.1, (3 : Int), x.1.2.2)) fun r4 =>
            some (r4, (0 : Int))
          else
            some ((x.1.1, (3 : Int), x.1.2.2), (0 : Int))
        else
        bif (decide (x.2 ≥ (5 : Int))) then
          Option.bind (f135 k (x.1.1, (3 : Int), x.1.2.2)) fun r5 =>
          some (r5, (0 : Int))
        else
          some ((x.1.1, (3 : Int), x.1.2.2), (0 : Int))
      else
      bif (decide (x.2 ≥ (5 : Int))) then
        Option.bind (f135 k (x.1.1, (3 : Int), x.1.2.2)) fun r6 =>
        some (r6, (0 : Int))
      else
        some ((x.1.1, (3 : Int), x.1.2.2), (0 : Int))
    else
    bif (x.1.2.1 == (1 : Int)) then
      bif (x.1.1 == (2 : Int)) then
        bif (x.2 == (1 : Int)) then
          bif (x.1.2.1 == (2 : Int)) then
            bif (x.1.1 == (1 : Int)) then
              Option.bind (f50 k (x.1.1, (3 : Int), x.1.2.2)) fun r7 =>
              bif (decide (r7 < x.1.2.2.2.1)) then
                some (((0 : Int), (0 : Int), (0 : Int), (0 : Int), (0 : Int), (0 : Int), (0 : Int), (0 : Int), (0 : Int), (0 : Int), [], (0 : Int), (0 : Int), (0 : Int), (0 : Int), [], (0 : Int), (0 : Int), (0 : Int)), (4 : Int))
              else
              bif (decide (x.2 ≥ (5 : Int))) then
                Option.bind (f135 k (x.1.1, (3 : Int), x.1.2.2)) fun r8 =>
                some (r8, (0 : Int))
              else
                some ((x.1.1, (3 : Int), x.1.2.2), (0 : Int))
            else
            bif (decide (x.2 ≥ (5 : Int))) then
              Option.bind (f135 k (x.1.1, (3 : Int), x.1.2.2)) fun r9 =>
              some (r9, (0 : Int))
            else
              some ((x.1.1, (3 : Int), x.1.2.2), (0 : Int))
          else
          bif (decide (x.2 ≥ (5 : Int))) then
            Option.bind (f135 k (x.1.1, (3 : Int), x.1.2.2)) fun r10 =>
            some (r10, (0 : Int))
          else
            some ((x.1.1, (3 : Int), x.1.2.2), (0 : Int))
        else
        bif (decide (x.2 ≥ (5 : Int))) then
          Option.bind (f135 k (x.1.1, (3 : Int), x.1.2.2)) fun r11 =>
          some (r11, (0 : Int))
        else
          some ((x.1.1, (3 : Int), x.1.2.2), (0 : Int))
      else
      bif (!(x.1.2.2.2.1 == (0 : Int))) then
        some (((0 : Int), (0 : Int), (0 : Int), (0 : Int), (0 : Int), (0 : Int), (0 : Int), (0 : Int), (0 : Int), (0 : Int), [], (0 : Int), (0 : Int), (0 : Int), (0 : Int), [], (0 : Int), (0 : Int), (0 : Int)), (9 : Int))
      else
      bif (x.2 == (1 : Int)) then
        bif (x.1.2.1 == (2 : Int)) then
          bif (x.1.1 == (1 : Int)) then
            Option.bind (f50 k (x.1.1, (3 : Int), x.1.2.2)) fun r12 =>
            bif (decide (r12 < x.1.2.2.2.1)) then
              some (((0 : Int), (0 : Int), (0 : Int), (0 : Int), (0 : Int), (0 : Int), (0 : Int), (0 : Int), (0 : Int), (0 : Int), [], (0 : Int), (0 : Int), (0 : Int), (0 : Int), [], (0 : Int), (0 : Int), (0 : Int)), (4 : Int))
            else
            bif (decide (x.2 ≥ (5 : Int))) then
              Option.bind (f135 k (x.1.1, (3 : Int), x.1.2.2)) fun r13 =>
              some (r13, (0 : Int))
            else
              some ((x.1.1, (3 : Int), x.1.2.2), (0 : Int))
          else
          bif (decide (x.2 ≥ (5 : Int))) then
            Option.bind (f135 k (x.1.1, (3 : Int), x.1.2.2)) fun r14 =>
            some (r14, (0 : Int))
          else
            some ((x.1.1, (3 : Int), x.1.2.2), (0 : Int))
        else
        bif (decide (x.2 ≥ (5 : Int))) then
          Option.bind (f135 k (x.1.1, (3 : Int), x.1.2.2)) fun r15 =>
          some (r15, (0 : Int))
        else
          some ((x.1.1, (3 : Int), x.1.2.2), (0 : Int))
      else
      bif (decide (x.2 ≥ (5 : Int))) then
        Option.bind (f135 k (x.1.1, (3 : Int), x.1.2.2)) fun r16 =>
        some (r16, (0 : Int))
      else
        some ((x.1.1, (3 : Int), x.1.2.2), (0 : Int))
    else
      some (((0 : Int), (0 : Int), (0 : Int), (0 : Int), (0 : Int), (0 : Int), (0 : Int), (0 : Int), (0 : Int), (0 : Int), [], (0 : Int), (0 : Int), (0 : Int), (0 : Int), [], (0 : Int), (0 : Int), (0 : Int)), (9 : Int))
  else
  bif (x.2 == (2 : Int)) then
    bif (!(x.1.2.1 == (3 : Int))) then
      some (((0 : Int), (0 : Int), (0 : Int), (0 : Int), (0 : Int), (0 : Int), (0 : Int), (0 : Int), (0 : Int), (0 : Int), [], (0 : Int), (0 : Int), (0 : Int), (0 : Int), [], (0 : Int), (0 : Int), (0 : Int)), (9 : Int))
    else
    bif (x.2 == (1 : Int)) then
      bif (x.1.2.1 == (2 : Int)) then
        bif (x.1.1 == (1 : Int)) then
          Option.bind (f50 k (x.1.1, (4 : Int), x.1.2.2)) fun r17 =>
          bif (decide (r17 < x.1.2.2.2.1)) then
            some (((0 : Int), (0 : Int), (0 : Int), (0 : Int), (0 : Int), (0 : Int), (0 : Int), (0 : Int), (0 : Int), (0 : Int), [], (0 : Int), (0 : Int), (0 : Int), (0 : Int), [], (0 : Int), (0 : Int), (0 : Int)), (4 : Int))
          else
          bif (decide (x.2 ≥ (5 : Int))) then
            Option.bind (f135 k (x.1.1, (4 : Int), x.1.2.2)) fun r18 =>
            some (r18, (0 : Int))
          else
            some ((x.1.1, (4 : Int), x.1.2.2), (0 : Int))
        else
        bif (decide (x.2 ≥ (5 : Int))) then
          Option.bind (f135 k (x.1.1, (4 : Int), x.1.2.2)) fun r19 =>
          some (r19, (0 : Int))
        else
          some ((x.1.1, (4 : Int), x.1.2.2), (0 : Int))
      else
      bif (decide (x.2 ≥ (5 : Int))) then
        Option.bind (f135 k (x.1.1, (4 : Int), x.1.2.2)) fun r20 =>
        some (r20, (0 : Int))
      else
        some ((x.1.1, (4 : Int), x.1.2.2), (0 : Int))
    else
    bif (decide (x.2 ≥ (5 : Int))) then
      Option.bind (f135 k (x.1.1, (4 : Int), x.1.2.2)) fun r21 =>
      some (r21, (0 : Int))
    else
      some ((x.1.1, (4 : Int), x.1.2.2), (0 : Int))
  else
  bif (x.2 == (3 : Int)) then
    bif (!(x.1.2.1 == (4 : Int))) then
      some (((0 : Int), (0 : Int), (0 : Int), (0 : Int), (0 : Int), (0 : Int), (0 : Int), (0 : Int), (0 : Int), (0 : Int), [], (0 : Int), (0 : Int), (0 : Int), (0 : Int), [], (0 : Int), (0 : Int), (0 : Int)), (9 : Int))
    else
    bif (x.2 == (1 : Int)) then
      bif (x.1.2.1 == (2 : Int)) then
        bif (x.1.1 == (1 : Int)) then
          Option.bind (f50 k (x.1.1, (3 : Int), x.1.2.2)) fun r22 =>
          bif (decide (r22 < x.1.2.2.2.1)) then
            some (((0 : Int), (0 : Int), (0 : Int), (0 : Int), (0 : Int), (0 : Int), (0 : Int), (0 : Int), (0 : Int), (0 : Int), [], (0 : Int), (0 : Int), (0 : Int), (0 : Int), [], (0 : Int), (0 : Int), (0 : Int)), (4 : Int))
          else
          bif (decide (x.2 ≥ (5 : Int))) then
            Option.bind (f135 k (x.1.1, (3 : Int), x.1.2.2)) fun r23 =>
            some (r23, (0 : Int))
          else
            some ((x.1.1, (3 : Int), x.1.2.2), (0 : Int))
        else
        bif (decide (x.2 ≥ (5 : Int))) then
          Option.bind (f135 k (x.1.1, (3 : Int), x.1.2.2)) fun r24 =>
          some (r24, (0 : Int))
        else
          some ((x.1.1, (3 : Int), x.1.2.2), (0 : Int))
      else
      bif (decide (x.2 ≥ (5 : Int))) then
        Option.bind (f135 k (x.1.1, (3 : Int), x.1.2.2)) fun r25 =>
        some (r25, (0 : Int))
      else
        some ((x.1.1, (3 : Int), x.1.2.2), (0 : Int))
    else
    bif (decide (x.2 ≥ (5 : Int))) then
      Option.bind (f135 k (x.1.1, (3 : Int), x.1.2.2)) fun r26 =>
      some (r26, (0 : Int))
    else
      some ((x.1.1, (3 : Int), x.1.2.2), (0 : Int))
  else
  bif (x.2 == (4 : Int)) then
    bif (x.1.1 == (1 : Int)) then
      bif (decide (x.1.2.1 ≥ (2 : Int))) then
        bif (!(decide (x.1.2.1 ≤ (4 : Int)))) then
          some (((0 : Int), (0 : Int), (0 : Int), (0 : Int), (0 : Int), (0 : Int), (0 : Int), (0 : Int), (0 : Int), (0 : Int), [], (0 : Int), (0 : Int), (0 : Int), (0 : Int), [], (0 : Int), (0 : Int), (0 : Int)), (9 : Int))
        else
        bif (x.2 == (1 : Int)) then
          bif (x.1.2.1 == (2 : Int)) then
            bif (x.1.1 == (1 : Int)) then
              Option.bind (f50 k (x.1.1, (5 : Int), x.1.2.2)) fun r27 =>
              bif (decide (r27 < x.1.2.2.2.1)) then
                some (((0 : Int), (0 : Int), (0 : Int), (0 : Int), (0 : Int), (0 : Int), (0 : Int), (0 : Int), (0 : Int), (0 : Int), [], (0 : Int), (0 : Int), (0 : Int), (0 : Int), [], (0 : Int), (0 : Int), (0 : Int)), (4 : Int))
              else
              bif (decide (x.2 ≥ (5 : Int))) then
                Option.bind (f135 k (x.1.1, (5 : Int), x.1.2.2)) fun r28 =>
                some (r28, (0 : Int))
              else
                some ((x.1.1, (5 : Int), x.1.2.2), (0 : Int))
            else
            bif (decide (x.2 ≥ (5 : Int))) then
              Option.bind (f135 k (x.1.1, (5 : Int), x.1.2.2)) fun r29 =>
              some (r29, (0 : Int))
            else
              some ((x.1.1, (5 : Int), x.1.2.2), (0 : Int))
          else
          bif (decide (x.2 ≥ (5 : Int))) then
            Option.bind (f135 k (x.1.1, (5 : Int), x.1.2.2)) fun r30 =>
            some (r30, (0 : Int))
          else
            some ((x.1.1, (5 : Int), x.1.2.2), (0 : Int))
        else
        bif (decide (x.2 ≥ (5 : Int))) then
          Option.bind (f135 k (x.1.1, (5 : Int), x.1.2.2)) fun r31 =>
          some (r31, (0 : Int))
        else
          some ((x.1.1, (5 : Int), x.1.2.2), (0 : Int))
      else
        some (((0 : Int), (0 : Int), (0 : Int), (0 : Int), (0 : Int), (0 : Int), (0 : Int), (0 : Int), (0 : Int), (0 : Int), [], (0 : Int), (0 : Int), (0 : Int), (0 : Int), [], (0 : Int), (0 : Int), (0 : Int)), (9 : Int))
    else
      some (((0 : Int), (0 : Int), (0 : Int), (0 : Int), (0 : Int), (0 : Int), (0 : Int), (0 : Int), (0 : Int), (0 : Int), [], (0 : Int), (0 : Int), (0 : Int), (0 : Int), [], (0 : Int), (0 : Int), (0 : Int)), (9 : Int))
  else
  bif (x.2 == (5 : Int)) then
    bif (!(decide (x.1.2.1 ≤ (5 : Int)))) then
      some (((0 : Int), (0 : Int), (0 : Int), (0 : Int), (0 : Int), (0 : Int), (0 : Int), (0 : Int), (0 : Int), (0 : Int), [], (0 : Int), (0 : Int), (0 : Int), (0 : Int), [], (0 : Int), (0 : Int), (0 : Int)), (9 : Int))
    else
    bif (x.2 == (1 : Int)) then
      bif (x.1.2.1 == (2 : Int)) then
        bif (x.1.1 == (1 : Int)) then
          Option.bind (f50 k (x.1.1, (6 : Int), x.1.2.2)) fun r32 =>
          bif (decide (r32 < x.1.2.2.2.1)) then
            some (((0 : Int), (0 : Int), (0 : Int), (0 : Int), (0 : Int), (0 : Int), (0 : Int), (0 : Int), (0 : Int), (0 : Int), [], (0 : Int), (0 : Int), (0 : Int), (0 : Int), [], (0 : Int), (0 : Int), (0 : Int)), (4 : Int))
          else
          bif (decide (x.2 ≥ (5 : Int))) then
            Option.bind (f135 k (x.1.1, (6 : Int), x.1.2.2)) fun r33 =>
            some (r33, (0 : Int))
          else
            some ((x.1.1, (6 : Int), x.1.2.2), (0 : Int))
        else
        bif (decide (x.2 ≥ (5 : Int))) then
          Option.bind (f135 k (x.1.1, (6 : Int), x.1.2.2)) fun r34 =>
          some (r34, (0 : Int))
        else
          some ((x.1.1, (6 : Int), x.1.2.2), (0 : Int))
      else
      bif (decide (x.2 ≥ (5 : Int))) then
        Option.bind (f135 k (x.1.1, (6 : Int), x.1.2.2)) fun r35 =>
        some (r35, (0 : Int))
      else
        some ((x.1.1, (6 : Int), x.1.2.2), (0 : Int))
    else
    bif (decide (x.2 ≥ (5 : Int))) then
      Option.bind (f135 k (x.1.1, (6 : Int), x.1.2.2)) fun r36 =>
      some (r36, (0 : Int))
    else
      some ((x.1.1, (6 : Int), x.1.2.2), (0 : Int))
  else
  bif (x.2 == (6 : Int)) then
    bif (!(x.1.2.1 != (7 : Int))) then
      some (((0 : Int), (0 : Int), (0 : Int), (0 : Int), (0 : Int), (0 : Int), (0 : Int), (0 : Int), (0 : Int), (0 : Int), [], (0 : Int), (0 : Int), (0 : Int), (0 : Int), [], (0 : Int), (0 : Int), (0 : Int)), (9 : Int))
    else
    bif (x.2 == (1 : Int)) then
      bif (x.1.2.1 == (2 : Int)) then
        bif (x.1.1 == (1 : Int)) then
          Option.bind (f50 k (x.1.1, (7 : Int), x.1.2.2)) fun r37 =>
          bif (decide (r37 < x.1.2.2.2.1)) then
            some (((0 : Int), (0 : Int), (0 : Int), (0 : Int), (0 : Int), (0 : Int), (0 : Int), (0 : Int), (0 : Int), (0 : Int), [], (0 : Int), (0 : Int), (0 : Int), (0 : Int), [], (0 : Int), (0 : Int), (0 : Int)), (4 : Int))
          else
          bif (decide (x.2 ≥ (5 : Int))) then
            Option.bind (f135 k (x.1.1, (7 : Int), x.1.2.2)) fun r38 =>
            some (r38, (0 : Int))
          else
            some ((x.1.1, (7 : Int), x.1.2.2), (0 : Int))
        else
        bif (decide (x.2 ≥ (5 : Int))) then
          Option.bind (f135 k (x.1.1, (7 : Int), x.1.2.2)) fun r39 =>
          some (r39, (0 : Int))
        else
          some ((x.1.1, (7 : Int), x.1.2.2), (0 : Int))
      else
      bif (decide (x.2 ≥ (5 : Int))) then
        Option.bind (f135 k (x.1.1, (7 : Int), x.1.2.2)) fun r40 =>
        some (r40, (0 : Int))
      else
        some ((x.1.1, (7 : Int), x.1.2.2), (0 : Int))
    else
    bif (decide (x.2 ≥ (5 : Int))) then
      Option.bind (f135 k (x.1.1, (7 : Int), x.1.2.2)) fun r41 =>
      some (r41, (0 : Int))
    else
      some ((x.1.1, (7 : Int), x.1.2.2), (0 : Int))
  else
  bif (x.2 == (7 : Int)) then
    bif (x.1.2.1 == (2 : Int)) then
      bif (!(decide (x.1.2.1 ≤ (4 : Int)))) then
        some (((0 : Int), (0 : Int), (0 : Int), (0 : Int), (0 : Int), (0 : Int), (0 : Int), (0 : Int), (0 : Int), (0 : Int), [], (0 : Int), (0 : Int), (0 : Int), (0 : Int), [], (0 : Int), (0 : Int), (0 : Int)), (9 : Int))
      else
      bif (x.2 == (1 : Int)) then
        bif (x.1.2.1 == (2 : Int)) then
          bif (x.1.1 == (1 : Int)) then
            Option.bind (f50 k (x.1.1, (1 : Int), x.1.2.2)) fun r42 =>
            bif (decide (r42 < x.1.2.2.2.1)) then
              some (((0 : Int), (0 : Int), (0 : Int), (0 : Int), (0 : Int), (0 : Int), (0 : Int), (0 : Int), (0 : Int), (0 : Int), [], (0 : Int), (0 : Int), (0 : Int), (0 : Int), [], (0 : Int), (0 : Int), (0 : Int)), (4 : Int))
            else
            bif (decide (x.2 ≥ (5 : Int))) then
              Option.bind (f135 k (x.1.1, (1 : Int), x.1.2.2)) fun r43 =>
              some (r43, (0 : Int))
            else
              some ((x.1.1, (1 : Int), x.1.2.2), (0 : Int))
          else
          bif (decide (x.2 ≥ (5 : Int))) then
            Option.bind (f135 k (x.1.1, (1 : Int), x.1.2.2)) fun r44 =>
            some (r44, (0 : Int))
          else
            some ((x.1.1, (1 : Int), x.1.2.2), (0 : Int))
        else
        bif (decide (x.2 ≥ (5 : Int))) then
          Option.bind (f135 k (x.1.1, (1 : Int), x.1.2.2)) fun r45 =>
          some (r45, (0 : Int))
        else
          some ((x.1.1, (1 : Int), x.1.2.2), (0 : Int))
      else
      bif (decide (x.2 ≥ (5 : Int))) then
        Option.bind (f135 k (x.1.1, (1 : Int), x.1.2.2)) fun r46 =>
        some (r46, (0 : Int))
      else
        some ((x.1.1, (1 : Int), x.1.2.2), (0 : Int))
    else
    bif (!(decide (x.1.2.1 ≤ (4 : Int)))) then
      some (((0 : Int), (0 : Int), (0 : Int), (0 : Int), (0 : Int), (0 : Int), (0 : Int), (0 : Int), (0 : Int), (0 : Int), [], (0 : Int), (0 : Int), (0 : Int), (0 : Int), [], (0 : Int), (0 : Int), (0 : Int)), (9 : Int))
    else
    bif (x.2 == (1 : Int)) then
      bif (x.1.2.1 == (2 : Int)) then
        bif (x.1.1 == (1 : Int)) then
          Option.bind (f50 k x.1) fun r47 =>
          bif (decide (r47 < x.1.2.2.2.1)) then
            some (((0 : Int), (0 : Int), (0 : Int), (0 : Int), (0 : Int), (0 : Int), (0 : Int), (0 : Int), (0 : Int), (0 : Int), [], (0 : Int), (0 : Int), (0 : Int), (0 : Int), [], (0 : Int), (0 : Int), (0 : Int)), (4 : Int))
          else
          bif (decide (x.2 ≥ (5 : Int))) then
            Option.bind (f135 k x.1) fun r48 =>
            some (r48, (0 : Int))
          else
            some (x.1, (0 : Int))
        else
        bif (decide (x.2 ≥ (5 : Int))) then
          Option.bind (f135 k x.1) fun r49 =>
          some (r49, (0 : Int))
        else
          some (x.1, (0 : Int))
      else
      bif (decide (x.2 ≥ (5 : Int))) then
        Option.bind (f135 k x.1) fun r50 =>
        some (r50, (0 : Int))
      else
        some (x.1, (0 : Int))
    else
    bif (decide (x.2 ≥ (5 : Int))) then
      Option.bind (f135 k x.1) fun r51 =>
      some (r51, (0 : Int))
    else
      some (x.1, (0 : Int))
  else
    some (((0 : Int), (0 : Int), (0 : Int), (0 : Int), (0 : Int), (0 : Int), (0 : Int), (0 : Int), (0 : Int), (0 : Int), [], (0 : Int), (0 : Int), (0 : Int), (0 : Int), [], (0 : Int), (0 : Int), (0 : Int)), (9 : Int))
/-- soundservice/soundservicemade.Acted -/
noncomputable def f67 (k : Nat) (x : List (Int) × Int × Int × Int × Int × Int × Int × Int × Int × Int × Int × List (Int) × Int × Int × Int × Int × List (Int) × Int × Int × Int) : Option ((Int × Int × Int × Int × Int × Int × Int × Int × Int × Int × List (Int) × Int × Int × Int × Int × List (Int) × Int × Int × Int) × List (Int)) :=
  Option.bind (f13 k (x.1, (4 : Int))) fun r1 =>
  bif (r1.1 == (0 : Int)) then
    Option.bind (f13 k (r1.2, (40 : Int))) fun r2 =>
    Option.bind (f55 k ((1 : Int), x.2.2.2.2.2.1, (0 : Int), r2.1)) fun r3 =>
    Option.bind (f57 k (x.2, r3)) fun r4 =>
    bif (r4.2 != (0 : Int)) then
      some (x.2, r2.2)
    else
      some (r4.1, r2.2)
  else
  bif (r1.1 == (1 : Int)) then
    bif (x.2.1 == (1 : Int)) then
      Option.bind (f13 k (r1.2, (30 : Int))) fun r5 =>
      Option.bind (f61 k (x.2, r5.1)) fun r6 =>
      bif (r6.2.2.2 != (0 : Int)) then
        some (x.2, r5.2)
      else
        some (r6.2.2.1, r5.2)
    else
      Option.bind (f13 k (r1.2, (30 : Int))) fun r7 =>
      Option.bind (f55 k ((2 : Int), x.2.2.2.2.2.1, (0 : Int), r7.1)) fun r8 =>
      Option.bind (f64 k (x.2, r8)) fun r9 =>
      bif (r9.2.2 != (0 : Int)) then
        some (x.2, r7.2)
      else
        some (r9.2.1, r7.2)
  else
  bif (r1.1 == (2 : Int)) then
    Option.bind (f13 k (r1.2, (30 : Int))) fun r10 =>
    Option.bind (f59 k (x.2, r10.1)) fun r11 =>
    bif (r11.2.2 != (0 : Int)) then
      some (x.2, r10.2)
    else
      some (r11.2.1, r10.2)
  else
    Option.bind (f13 k (r1.2, (8 : Int))) fun r12 =>
    bif (decide (0 ≤ r12.1) && decide (r12.1 < ((([(1 : Int), (1 : Int), (2 : Int), (3 : Int), (4 : Int), (5 : Int), (6 : Int), (7 : Int)])).length : Int))) then
      Option.bind (f60 k (x.2, ((([(1 : Int), (1 : Int), (2 : Int), (3 : Int), (4 : Int), (5 : Int), (6 : Int), (7 : Int)])).getD (r12.1).toNat (0 : Int)))) fun r13 =>
      bif (r13.2 != (0 : Int)) then
        some (x.2, r12.2)
      else
        some (r13.1, r12.2)
    else
      none
/-- soundservice/soundservicemade.Stream -/
noncomputable def L14_7 (k : Nat) {R : Type} (K0 : ((Int × Int × Int × Int × Int × Int × Int × Int × Int × Int × Int × Int × Int × Int × Int × Int × Int) × (Int × Int × Int × Int × Int × Int × Int × Int × Int × Int × List (Int) × Int × Int × Int × Int × List (Int) × Int × Int × Int) × List (Int)) → Option R) (y : Int × (Int × Int × Int × Int × Int × Int × Int × Int × Int × Int × Int × Int × Int × Int × Int × Int × Int) × (Int × Int × Int × Int × Int × Int × Int × Int × Int × Int × List (Int) × Int × Int × Int × Int × List (Int) × Int × Int × Int) × List (Int)) (next : (Int × (Int × Int × Int × Int × Int × Int × Int × Int × Int × Int × Int × Int × Int × Int × Int × Int × Int) × (Int × Int × Int × Int × Int × Int × Int × Int × Int × Int × List (Int) × Int × Int × Int × Int × List (Int) × Int × Int × Int) × List (Int)) → Option R) : Option R :=
  bif (decide (y.1 > (0 : Int))) then
    Option.bind (f67 k (y.2.2.2, y.2.2.1)) fun r7 =>
    next ((IntKind.wrap .i64 (y.1 - (1 : Int))), y.2.1, r7)
  else
    K0 y.2
noncomputable def f14 (k : Nat) (x : List (Int) × Int) : Option ((Int × Int × Int × Int × Int × Int × Int × Int × Int × Int × List (Int) × Int × Int × Int × Int × List (Int) × Int × Int × Int) × List (Int)) :=
  Option.bind (f13 k (x.1, (2 : Int))) fun r1 =>
  Option.bind (f66 k r1.2) fun r2 =>
  Option.bind (f13 k (r2.2, (200 : Int))) fun r3 =>
  Option.bind (f53 k (x.2, (IntKind.wrap .i64 ((1 : Int) + r1.1)), r2.1, (IntKind.wrap .i64 ((1 : Int) + r3.1)), (0 : Int))) fun r4 =>
  bif (r4.2 != (0 : Int)) then
    some (((0 : Int), (0 : Int), (0 : Int), (0 : Int), (0 : Int), (0 : Int), (0 : Int), (0 : Int), (0 : Int), (0 : Int), [], (0 : Int), (0 : Int), (0 : Int), (0 : Int), [], (0 : Int), (0 : Int), (0 : Int)), r3.2)
  else
    Option.bind (f13 k (r3.2, (IntKind.wrap .i64 ((if (6 : Int) < r4.1.2.2.1 then (6 : Int) else r4.1.2.2.1) + (1 : Int))))) fun r5 =>
    Option.bind (f13 k (r5.2, (7 : Int))) fun r6 =>
    loopC k (L14_7 k
      (fun z8 =>
        some z8.2))
      (r6.1, ((0 : Int), (0 : Int), (0 : Int), (0 : Int), (0 : Int), (0 : Int), (0 : Int), (0 : Int), (0 : Int), (0 : Int), (0 : Int), (0 : Int), (0 : Int), (0 : Int), (0 : Int), (0 : Int), (0 : Int)), (r4.1.1, r4.1.2.1, r4.1.2.2.1, r5.1, r4.1.2.2.2.2), r6.2)
/-- soundservice/soundservicelaw20.made -/
noncomputable def f45 (k : Nat) (x : List (Int)) : Option ((Int × Int × Int × Int × Int × Int × Int × Int × Int × Int × List (Int) × Int × Int × Int × Int × List (Int) × Int × Int × Int) × List (Int)) :=
  Option.bind (f13 k (x, (2 : Int))) fun r1 =>
  Option.bind (f14 k (r1.2, (IntKind.wrap .i64 ((1 : Int) + r1.1)))) fun r2 =>
  some r2
/-- soundservice/soundserviceref20.Owes -/
noncomputable def f46 (k : Nat) (x : (Int × Int × Int × Int × Int × Int × Int × Int × Int × Int × List (Int) × Int × Int × Int × Int × List (Int) × Int × Int × Int) × Int) : Option (Int × Int) :=
  Option.bind (f121 k x.1) fun r1 =>
  bif (!r1) then
    some ((0 : Int), (1 : Int))
  else
    Option.bind (f122 k ((x.1.2.2.2.2.2.1, x.1.2.2.2.2.2.2.1, x.1.2.2.2.2.2.2.2.1, x.1.2.2.2.2.2.2.2.2.1, x.1.2.2.2.2.2.2.2.2.2.1), x.2)) fun r2 =>
    bif (r2.2 != (0 : Int)) then
      some ((0 : Int), r2.2)
    else
      Option.bind (f50 k x.1) fun r3 =>
      some ((if (IntKind.wrap .i64 (r2.1 - r3)) > (0 : Int) then (IntKind.wrap .i64 (r2.1 - r3)) else (0 : Int)), (0 : Int))
/-- soundservice/soundserviceref15.Same -/
noncomputable def f131 (k : Nat) (x : (Int × Int × Int × Int × Int × Int × List (Int)) × Int × Int × Int × Int × Int × Int × List (Int)) : Option (Bool) :=
  bif (x.1.1 == x.2.1) then
    bif ((x.1.2.1 == x.2.2.1) && ((x.1.2.2.1 == x.2.2.2.1) && ((x.1.2.2.2.1 == x.2.2.2.2.1) && ((x.1.2.2.2.2.1 == x.2.2.2.2.2.1) && ((x.1.2.2.2.2.2.1 == x.2.2.2.2.2.2.1) && true))))) then
      Option.bind (f71 k (x.1.2.2.2.2.2.2, x.2.2.2.2.2.2.2)) fun r1 =>
      some r1
    else
      some false
  else
    some false
/-- soundservice/soundserviceref20.Same -/
noncomputable def f54 (k : Nat) (x : (Int × Int × Int × Int × Int × Int × Int × Int × Int × Int × List (Int) × Int × Int × Int × Int × List (Int) × Int × Int × Int) × Int × Int × Int × Int × Int × Int × Int × Int × Int × Int × List (Int) × Int × Int × Int × Int × List (Int) × Int × Int × Int) : Option (Bool) :=
  bif (x.1.1 == x.2.1) then
    bif (x.1.2.1 == x.2.2.1) then
      bif (x.1.2.2.1 == x.2.2.2.1) then
        bif (x.1.2.2.2.1 == x.2.2.2.2.1) then
          bif (x.1.2.2.2.2.2.2.2.2.2.2.2.2.2.2.2.2.1 == x.2.2.2.2.2.2.2.2.2.2.2.2.2.2.2.2.2.1) then
            bif (x.1.2.2.2.2.2.2.2.2.2.2.2.2.2.2.2.2.2.1 == x.2.2.2.2.2.2.2.2.2.2.2.2.2.2.2.2.2.2.1) then
              bif (x.1.2.2.2.2.2.2.2.2.2.2.2.2.2.2.2.2.2.2 == x.2.2.2.2.2.2.2.2.2.2.2.2.2.2.2.2.2.2.2) then
                Option.bind (f131 k ((x.1.2.2.2.2.1, x.1.2.2.2.2.2.1, x.1.2.2.2.2.2.2.1, x.1.2.2.2.2.2.2.2.1, x.1.2.2.2.2.2.2.2.2.1, x.1.2.2.2.2.2.2.2.2.2.1, x.1.2.2.2.2.2.2.2.2.2.2.1), x.2.2.2.2.2.1, x.2.2.2.2.2.2.1, x.2.2.2.2.2.2.2.1, x.2.2.2.2.2.2.2.2.1, x.2.2.2.2.2.2.2.2.2.1, x.2.2.2.2.2.2.2.2.2.2.1, x.2.2.2.2.2.2.2.2.2.2.2.1)) fun r1 =>
                bif r1 then
                  Option.bind (f126 k ((x.1.2.2.2.2.2.2.2.2.2.2.2.1, x.1.2.2.2.2.2.2.2.2.2.2.2.2.1, x.1.2.2.2.2.2.2.2.2.2.2.2.2.2.1, x.1.2.2.2.2.2.2.2.2.2.2.2.2.2.2.1, x.1.2.2.2.2.2.2.2.2.2.2.2.2.2.2.2.1), x.2.2.2.2.2.2.2.2.2.2.2.2.1, x.2.2.2.2.2.2.2.2.2.2.2.2.2.1, x.2.2.2.2.2.2.2.2.2.2.2.2.2.2.1, x.2.2.2.2.2.2.2.2.2.2.2.2.2.2.2.1, x.2.2.2.2.2.2.2.2.2.2.2.2.2.2.2.2.1)) fun r2 =>
                  some r2
                else
                  some false
              else
                some false
            else
              some false
          else
            some false
        else
          some false
      else
        some false
    else
      some false
  else
    some false
/-- soundservice/soundservicelaw20.StreamMakes -/
noncomputable def L5_9 (k : Nat) {R : Type} (K0 : Bool → Option R) (K1 : (Int × Int × Int × Int × Int × Int × Int × (Int × Int) × (Int × Int × Int × Int × Int × Int × Int × Int × Int × Int × List (Int) × Int × Int × Int × Int × List (Int) × Int × Int × Int) × List (Int × Int × Int × Int × Int × Int × Int × Int × Int × Int × List (Int) × Int × Int × Int × Int × List (Int) × Int × Int × Int)) → Option R) (y : Int × Int × Int × Int × Int × Int × Int × Int × Int × (Int × Int) × (Int × Int × Int × Int × Int × Int × Int × Int × Int × Int × List (Int) × Int × Int × Int × Int × List (Int) × Int × Int × Int) × (List (Int × Int × Int × Int × Int × Int × Int × Int × Int × Int × List (Int) × Int × Int × Int × Int × List (Int) × Int × Int × Int)) × List (Int)) (next : (Int × Int × Int × Int × Int × Int × Int × Int × Int × (Int × Int) × (Int × Int × Int × Int × Int × Int × Int × Int × Int × Int × List (Int) × Int × Int × Int × Int × List (Int) × Int × Int × Int) × (List (Int × Int × Int × Int × Int × Int × Int × Int × Int × Int × List (Int) × Int × Int × Int × Int × List (Int) × Int × Int × Int)) × List (Int)) → Option R) : Option R :=
  bif (decide (y.2.2.2.2.2.2.2.2.1 < y.2.2.2.2.2.2.2.1)) then
    bif (decide (0 ≤ y.2.2.2.2.2.2.2.2.1) && decide (y.2.2.2.2.2.2.2.2.1 < ((y.2.2.2.2.2.2.2.2.2.2.2.2).length : Int))) then
      Option.bind (f32 k (y.2.2.2.2.2.2.2.2.2.2.1, ((y.2.2.2.2.2.2.2.2.2.2.2.2).getD (y.2.2.2.2.2.2.2.2.1).toNat (0 : Int)))) fun r5 =>
      Option.bind (f46 k (y.2.2.2.2.2.2.2.2.2.2.1, ((y.2.2.2.2.2.2.2.2.2.2.2.2).getD (y.2.2.2.2.2.2.2.2.1).toNat (0 : Int)))) fun r6 =>
      bif (r5.1 != r6.1) then
        K0 false
      else
      bif (r5.2 != r6.2) then
        K0 false
      else
        next (y.1, y.2.1, y.2.2.1, y.2.2.2.1, y.2.2.2.2.1, y.2.2.2.2.2.1, y.2.2.2.2.2.2.1, y.2.2.2.2.2.2.2.1, (IntKind.wrap .i64 (y.2.2.2.2.2.2.2.2.1 + (1 : Int))), y.2.2.2.2.2.2.2.2.2)
    else
      none
  else
    K1 (y.1, y.2.1, y.2.2.1, y.2.2.2.1, y.2.2.2.2.1, y.2.2.2.2.2.1, y.2.2.2.2.2.2.1, y.2.2.2.2.2.2.2.2.2.1, y.2.2.2.2.2.2.2.2.2.2.1, y.2.2.2.2.2.2.2.2.2.2.2.1)
noncomputable def L5_6 (k : Nat) {R : Type} (K0 : Bool → Option R) (K1 : (Int × Int × Int × Int × Int × Int) → Option R) (y : Int × Int × Int × Int × Int × Int × Int × (Int × Int) × List (Int × Int × Int × Int × Int × Int × Int × Int × Int × Int × List (Int) × Int × Int × Int × Int × List (Int) × Int × Int × Int)) (next : (Int × Int × Int × Int × Int × Int × Int × (Int × Int) × List (Int × Int × Int × Int × Int × Int × Int × Int × Int × Int × List (Int) × Int × Int × Int × Int × List (Int) × Int × Int × Int)) → Option R) : Option R :=
  bif (decide (y.2.2.2.2.2.2.1 < y.2.2.2.2.2.1)) then
    bif (decide (0 ≤ y.2.2.2.2.2.2.1) && decide (y.2.2.2.2.2.2.1 < ((y.2.2.2.2.2.2.2.2).length : Int))) then
      loopC k (L5_9 k
        (fun z7 =>
          K0 z7)
        (fun z8 =>
          Option.bind (f47 k z8.2.2.2.2.2.2.2.2.1) fun r9 =>
          Option.bind (f48 k z8.2.2.2.2.2.2.2.2.1) fun r10 =>
          bif (r9 != r10) then
            K0 false
          else
            Option.bind (f49 k z8.2.2.2.2.2.2.2.2.1) fun r11 =>
            Option.bind (f50 k z8.2.2.2.2.2.2.2.2.1) fun r12 =>
            bif (r11 != r12) then
              K0 false
            else
              Option.bind (f51 k z8.2.2.2.2.2.2.2.2.1) fun r13 =>
              Option.bind (f52 k z8.2.2.2.2.2.2.2.2.1) fun r14 =>
              bif (r13 != r14) then
                K0 false
              else
                next (z8.1, z8.2.1, z8.2.2.1, z8.2.2.2.1, z8.2.2.2.2.1, z8.2.2.2.2.2.1, (IntKind.wrap .i64 (z8.2.2.2.2.2.2.1 + (1 : Int))), z8.2.2.2.2.2.2.2.1, z8.2.2.2.2.2.2.2.2.2)))
        (y.1, y.2.1, y.2.2.1, y.2.2.2.1, y.2.2.2.2.1, y.2.2.2.2.2.1, y.2.2.2.2.2.2.1, (((([y.1, (Int.tmod y.1 (300 : Int))])).length : Int)), (0 : Int), y.2.2.2.2.2.2.2.1, ((y.2.2.2.2.2.2.2.2).getD (y.2.2.2.2.2.2.1).toNat ((0 : Int), (0 : Int), (0 : Int), (0 : Int), (0 : Int), (0 : Int), (0 : Int), (0 : Int), (0 : Int), (0 : Int), [], (0 : Int), (0 : Int), (0 : Int), (0 : Int), [], (0 : Int), (0 : Int), (0 : Int))), y.2.2.2.2.2.2.2.2, ([y.1, (Int.tmod y.1 (300 : Int))]))
    else
      none
  else
    K1 (y.2.1, y.2.2.1, y.2.2.2.1, y.2.2.2.2.1, y.2.2.2.2.2.2.2.1)
noncomputable def L5_20 (k : Nat) {R : Type} (K0 : Bool → Option R) (K1 : Unit → Option R) (y : Int × Int × Int × Int × Int × (Int × Int) × List (Int)) (next : (Int × Int × Int × Int × Int × (Int × Int) × List (Int)) → Option R) : Option R :=
  bif (decide (y.2.2.2.2.1 < y.2.2.2.1)) then
    bif (decide (0 ≤ y.2.2.2.2.1) && decide (y.2.2.2.2.1 < ((y.2.2.2.2.2.2).length : Int))) then
      Option.bind (f15 k (((y.2.2.2.2.2.2).getD (y.2.2.2.2.1).toNat (0 : Int)), y.1, y.2.2.2.2.2.1, y.2.1, y.2.2.1)) fun r17 =>
      Option.bind (f53 k (((y.2.2.2.2.2.2).getD (y.2.2.2.2.1).toNat (0 : Int)), y.1, y.2.2.2.2.2.1, y.2.1, y.2.2.1)) fun r18 =>
      bif (r17.2 != r18.2) then
        K0 false
      else
        Option.bind (f54 k (r17.1, r18.1)) fun r19 =>
        bif (!r19) then
          K0 false
        else
          next (y.1, y.2.1, y.2.2.1, y.2.2.2.1, (IntKind.wrap .i64 (y.2.2.2.2.1 + (1 : Int))), y.2.2.2.2.2)
    else
      none
  else
    K1 ()
noncomputable def f5 (k : Nat) (x : (Int × Int × Int × Int × Int × Int × Int × Int × Int × Int × List (Int) × Int × Int × Int × Int × List (Int) × Int × Int × Int) × List (Int) × Int × Int × Int × Int × Int × Int × Int) : Option (Bool) :=
  Option.bind (f43 k ()) fun r1 =>
  bif (!r1) then
    some false
  else
    Option.bind (f44 k (x.1, (300 : Int))) fun r2 =>
    bif (!r2) then
      some true
    else
      Option.bind (f12 k x.2.1) fun r3 =>
      Option.bind (f45 k r3) fun r4 =>
      loopC k (L5_6 k
        (fun z15 =>
          some z15)
        (fun z16 =>
          loopC k (L5_20 k
            (fun z20 =>
              some z20)
            (fun z21 =>
              some true))
            (z16.2.1, z16.2.2.1, z16.2.2.2.1, (((([z16.1, (IntKind.wrap .i64 ((1 : Int) + (Int.tmod (IntKind.wrap .i64 ((Int.tmod z16.1 (2 : Int)) + (2 : Int))) (2 : Int))))])).length : Int)), (0 : Int), z16.2.2.2.2, ([z16.1, (IntKind.wrap .i64 ((1 : Int) + (Int.tmod (IntKind.wrap .i64 ((Int.tmod z16.1 (2 : Int)) + (2 : Int))) (2 : Int))))]))))
        (x.2.2.1, x.2.2.2.1, x.2.2.2.2.1, x.2.2.2.2.2.1, x.2.2.2.2.2.2.1, (((([x.1, r4.1])).length : Int)), (0 : Int), x.2.2.2.2.2.2.2, ([x.1, r4.1]))
/-- soundservice/soundservicelaw20.StreamOwing -/
noncomputable def f6 (k : Nat) (x : List (Int) × Int) : Option (Bool) :=
  Option.bind (f43 k ()) fun r1 =>
  bif (!r1) then
    some false
  else
    Option.bind (f12 k x.1) fun r2 =>
    Option.bind (f14 k (r2, (1 : Int))) fun r3 =>
    bif (r3.1.2.1 != (3 : Int)) then
      some true
    else
      Option.bind (f32 k (r3.1, (IntKind.wrap .i64 (Int.tmod x.2 (40 : Int))))) fun r4 =>
      Option.bind (f33 k (r3.1, (IntKind.wrap .i64 (Int.tmod x.2 (40 : Int))))) fun r5 =>
      bif (r4.2 == (0 : Int)) then
        bif (r5.2.2.2 == (0 : Int)) then
          bif ((r4.1 == (0 : Int)) == (r5.2.1 == (0 : Int))) then
            Option.bind (f42 k r5.1) fun r6 =>
            bif (r6 == (IntKind.wrap .i64 (Int.tmod x.2 (40 : Int)))) then
              bif (r5.2.2.1.2.2.2.2.2.2.2.2.2.2.2.2.2.2.2.2.2.2 == (IntKind.wrap .i64 (r3.1.2.2.2.2.2.2.2.2.2.2.2.2.2.2.2.2.2.2 + r5.2.1))) then
                some (r5.2.2.1.2.2.2.2.2.2.2.2.2.2.2.2.2.2.2.2.2.1 == (IntKind.wrap .i64 (r3.1.2.2.2.2.2.2.2.2.2.2.2.2.2.2.2.2.2.1 + (IntKind.wrap .i64 (Int.tmod x.2 (40 : Int))))))
              else
                some false
            else
              some false
          else
            some false
        else
          some false
      else
        some false
/-- soundservice/soundserviceref04.Same -/
noncomputable def f17 (k : Nat) (x : (Int × List (Int)) × Int × List (Int)) : Option (Bool) :=
  bif (x.1.1 == x.2.1) then
    Option.bind (f71 k (x.1.2, x.2.2)) fun r1 =>
    some r1
  else
    some false
/-- soundservice/soundservicelaw20.StreamRewinds -/
noncomputable def f7 (k : Nat) (x : List (Int) × Int × Int) : Option (Bool) :=
  Option.bind (f43 k ()) fun r1 =>
  bif (!r1) then
    some false
  else
    Option.bind (f12 k x.1) fun r2 =>
    Option.bind (f14 k (r2, (1 : Int))) fun r3 =>
    Option.bind (f28 k (r3.1, (7 : Int))) fun r4 =>
    bif (r4.2 != (0 : Int)) then
      bif (r4.2 == (9 : Int)) then
        some (decide (r3.1.2.1 ≥ (5 : Int)))
      else
        some false
    else
      Option.bind (f49 k r4.1) fun r5 =>
      bif (r5 != (0 : Int)) then
        some false
      else
      bif (r4.1.2.2.2.2.2.2.2.2.2.2.2.2.2.2.2.2.1 != r3.1.2.2.2.2.2.2.2.2.2.2.2.2.2.2.2.2.1) then
        some false
      else
      bif (r4.1.2.2.2.2.2.2.2.2.2.2.2.2.2.2.2.2.2.1 != r3.1.2.2.2.2.2.2.2.2.2.2.2.2.2.2.2.2.2.1) then
        some false
      else
      bif (r4.1.2.2.2.2.2.2.2.2.2.2.2.2.2.2.2.2.2.2 != r3.1.2.2.2.2.2.2.2.2.2.2.2.2.2.2.2.2.2.2) then
        some false
      else
      bif (r4.1.2.2.1 != r3.1.2.2.1) then
        some false
      else
      bif (r3.1.2.1 == (2 : Int)) then
        bif (r4.1.2.1 != (1 : Int)) then
          some false
        else
        bif (r3.1.2.1 != (2 : Int)) then
          bif (r4.1.2.1 != r3.1.2.1) then
            some false
          else
            Option.bind (f15 k ((1 : Int), r3.1.2.2.2.2.1, (r3.1.2.2.2.2.2.1, r3.1.2.2.2.2.2.2.1), r3.1.2.2.1, (0 : Int))) fun r6 =>
            Option.bind (f55 k ((8 : Int), r3.1.2.2.2.2.1, (0 : Int), (if (IntKind.wrap .i64 (Int.tmod x.2.1 (40 : Int))) < r3.1.2.2.1 then (IntKind.wrap .i64 (Int.tmod x.2.1 (40 : Int))) else r3.1.2.2.1))) fun r7 =>
            Option.bind (f27 k ((r4.1.1, (3 : Int), r4.1.2.2.1, (0 : Int), r4.1.2.2.2.2), r7)) fun r8 =>
            Option.bind (f27 k ((r6.1.1, (3 : Int), r6.1.2.2), r7)) fun r9 =>
            Option.bind (f33 k (r8.1, (IntKind.wrap .i64 (Int.tmod x.2.2 (30 : Int))))) fun r10 =>
            Option.bind (f33 k (r9.1, (IntKind.wrap .i64 (Int.tmod x.2.2 (30 : Int))))) fun r11 =>
            bif (r6.2 == (0 : Int)) then
              bif (r8.2 == (0 : Int)) then
                bif (r9.2 == (0 : Int)) then
                  bif (r10.2.2.2 == (0 : Int)) then
                    bif (r11.2.2.2 == (0 : Int)) then
                      bif (r10.2.1 == r11.2.1) then
                        Option.bind (f17 k (r10.1, r11.1)) fun r12 =>
                        some r12
                      else
                        some false
                    else
                      some false
                  else
                    some false
                else
                  some false
              else
                some false
            else
              some false
        else
          Option.bind (f15 k ((1 : Int), r3.1.2.2.2.2.1, (r3.1.2.2.2.2.2.1, r3.1.2.2.2.2.2.2.1), r3.1.2.2.1, (0 : Int))) fun r13 =>
          Option.bind (f55 k ((8 : Int), r3.1.2.2.2.2.1, (0 : Int), (if (IntKind.wrap .i64 (Int.tmod x.2.1 (40 : Int))) < r3.1.2.2.1 then (IntKind.wrap .i64 (Int.tmod x.2.1 (40 : Int))) else r3.1.2.2.1))) fun r14 =>
          Option.bind (f27 k ((r4.1.1, (3 : Int), r4.1.2.2.1, (0 : Int), r4.1.2.2.2.2), r14)) fun r15 =>
          Option.bind (f27 k ((r13.1.1, (3 : Int), r13.1.2.2), r14)) fun r16 =>
          Option.bind (f33 k (r15.1, (IntKind.wrap .i64 (Int.tmod x.2.2 (30 : Int))))) fun r17 =>
          Option.bind (f33 k (r16.1, (IntKind.wrap .i64 (Int.tmod x.2.2 (30 : Int))))) fun r18 =>
          bif (r13.2 == (0 : Int)) then
            bif (r15.2 == (0 : Int)) then
              bif (r16.2 == (0 : Int)) then
                bif (r17.2.2.2 == (0 : Int)) then
                  bif (r18.2.2.2 == (0 : Int)) then
                    bif (r17.2.1 == r18.2.1) then
                      Option.bind (f17 k (r17.1, r18.1)) fun r19 =>
                      some r19
                    else
                      some false
                  else
                    some false
                else
                  some false
              else
                some false
            else
              some false
          else
            some false
      else
      bif (r3.1.2.1 != (2 : Int)) then
        bif (r4.1.2.1 != r3.1.2.1) then
          some false
        else
          Option.bind (f15 k ((1 : Int), r3.1.2.2.2.2.1, (r3.1.2.2.2.2.2.1, r3.1.2.2.2.2.2.2.1), r3.1.2.2.1, (0 : Int))) fun r20 =>
          Option.bind (f55 k ((8 : Int), r3.1.2.2.2.2.1, (0 : Int), (if (IntKind.wrap .i64 (Int.tmod x.2.1 (40 : Int))) < r3.1.2.2.1 then (IntKind.wrap .i64 (Int.tmod x.2.1 (40 : Int))) else r3.1.2.2.1))) fun r21 =>
          Option.bind (f27 k ((r4.1.1, (3 : Int), r4.1.2.2.1, (0 : Int), r4.1.2.2.2.2), r21)) fun r22 =>
          Option.bind (f27 k ((r20.1.1, (3 : Int), r20.1.2.2), r21)) fun r23 =>
          Option.bind (f33 k (r22.1, (IntKind.wrap .i64 (Int.tmod x.2.2 (30 : Int))))) fun r24 =>
          Option.bind (f33 k (r23.1, (IntKind.wrap .i64 (Int.tmod x.2.2 (30 : Int))))) fun r25 =>
          bif (r20.2 == (0 : Int)) then
            bif (r22.2 == (0 : Int)) then
              bif (r23.2 == (0 : Int)) then
                bif (r24.2.2.2 == (0 : Int)) then
                  bif (r25.2.2.2 == (0 : Int)) then
                    bif (r24.2.1 == r25.2.1) then
                      Option.bind (f17 k (r24.1, r25.1)) fun r26 =>
                      some r26
                    else
                      some false
                  else
                    some false
                else
                  some false
              else
                some false
            else
              some false
          else
            some false
      else
        Option.bind (f15 k ((1 : Int), r3.1.2.2.2.2.1, (r3.1.2.2.2.2.2.1, r3.1.2.2.2.2.2.2.1), r3.1.2.2.1, (0 : Int))) fun r27 =>
        Option.bind (f55 k ((8 : Int), r3.1.2.2.2.2.1, (0 : Int), (if (IntKind.wrap .i64 (Int.tmod x.2.1 (40 : Int))) < r3.1.2.2.1 then (IntKind.wrap .i64 (Int.tmod x.2.1 (40 : Int))) else r3.1.2.2.1))) fun r28 =>
        Option.bind (f27 k ((r4.1.1, (3 : Int), r4.1.2.2.1, (0 : Int), r4.1.2.2.2.2), r28)) fun r29 =>
        Option.bind (f27 k ((r27.1.1, (3 : Int), r27.1.2.2), r28)) fun r30 =>
        Option.bind (f33 k (r29.1, (IntKind.wrap .i64 (Int.tmod x.2.2 (30 : Int))))) fun r31 =>
        Option.bind (f33 k (r30.1, (IntKind.wrap .i64 (Int.tmod x.2.2 (30 : Int))))) fun r32 =>
        bif (r27.2 == (0 : Int)) then
          bif (r29.2 == (0 : Int)) then
            bif (r30.2 == (0 : Int)) then
              bif (r31.2.2.2 == (0 : Int)) then
                bif (r32.2.2.2 == (0 : Int)) then
                  bif (r31.2.1 == r32.2.1) then
                    Option.bind (f17 k (r31.1, r32.1)) fun r33 =>
                    some r33
                  else
                    some false
                else
                  some false
              else
                some false
            else
              some false
          else
            some false
        else
          some false
/-- soundservice/soundservicekeep.Block -/
noncomputable def f56 (k : Nat) (x : (Int × List (Int)) × Int) : Option (Bool) :=
  some (decide ((((x.1.2).length : Int)) ≤ x.2))
/-- soundservice/ring.Read -/
noncomputable def f132 (k : Nat) (x : (Int × Int × Int × Int × List (Int)) × Int) : Option ((Int × List (Int)) × Int × (Int × Int × Int × Int × List (Int)) × Int) :=
  Option.bind (f125 k x.1) fun r1 =>
  bif (!r1) then
    some (((0 : Int), []), (0 : Int), ((0 : Int), (0 : Int), (0 : Int), (0 : Int), []), (1 : Int))
  else
  bif (decide (x.2 < (0 : Int))) then
    some (((0 : Int), []), (0 : Int), ((0 : Int), (0 : Int), (0 : Int), (0 : Int), []), (2 : Int))
  else
  bif (decide (x.2 > (65536 : Int))) then
    some (((0 : Int), []), (0 : Int), ((0 : Int), (0 : Int), (0 : Int), (0 : Int), []), (2 : Int))
  else
    Option.bind (f128 k x.1) fun r2 =>
    bif (decide (0 ≤ (IntKind.wrap .i64 (x.2 * x.1.1))) && decide ((IntKind.wrap .i64 (x.2 * x.1.1)) ≤ (IntKind.wrap .i64 (x.2 * x.1.1))) && decide ((IntKind.wrap .i64 (x.2 * x.1.1)) * ((4 : Nat) : Int) ≤ (maxBytes : Int)) && true && true) then
      bif (decide (0 ≤ (0 : Int)) && decide ((0 : Int) ≤ (IntKind.wrap .i64 ((if r2 < x.2 then r2 else x.2) * x.1.1))) && decide ((IntKind.wrap .i64 ((if r2 < x.2 then r2 else x.2) * x.1.1)) ≤ (IntKind.wrap .i64 ((if r2 < x.2 then r2 else x.2) * x.1.1))) && decide ((IntKind.wrap .i64 ((if r2 < x.2 then r2 else x.2) * x.1.1)) ≤ (((x.1.2.2.2.2).length : Int)))) then
        bif (decide (0 ≤ (IntKind.wrap .i64 ((if r2 < x.2 then r2 else x.2) * x.1.1))) && decide ((IntKind.wrap .i64 ((if r2 < x.2 then r2 else x.2) * x.1.1)) ≤ (((x.1.2.2.2.2).length : Int))) && decide ((((x.1.2.2.2.2).length : Int)) ≤ (((x.1.2.2.2.2).length : Int))) && decide ((((x.1.2.2.2.2).length : Int)) ≤ (((x.1.2.2.2.2).length : Int)))) then
          Option.bind (f169 k (((x.1.2.2.2.2).take ((((x.1.2.2.2.2).length : Int))).toNat).drop ((IntKind.wrap .i64 ((if r2 < x.2 then r2 else x.2) * x.1.1))).toNat)) fun r3 =>
          some ((x.1.1, (List.take ((((IntKind.wrap .i64 (x.2 * x.1.1))).toNat)) ((((x.1.2.2.2.2).take ((IntKind.wrap .i64 ((if r2 < x.2 then r2 else x.2) * x.1.1))).toNat).drop ((0 : Int)).toNat)) ++ List.replicate (((((IntKind.wrap .i64 (x.2 * x.1.1))).toNat)) - List.length ((((x.1.2.2.2.2).take ((IntKind.wrap .i64 ((if r2 < x.2 then r2 else x.2) * x.1.1))).toNat).drop ((0 : Int)).toNat))) (0 : Int))), (IntKind.wrap .i64 (x.2 - (if r2 < x.2 then r2 else x.2))), (x.1.1, x.1.2.1, x.1.2.2.1, (IntKind.wrap .i64 (x.1.2.2.2.1 + (if r2 < x.2 then r2 else x.2))), r3), (0 : Int))
        else
          none
      else
        none
    else
      none
/-- soundservice/stream.Read -/
noncomputable def f58 (k : Nat) (x : (Int × Int × Int × Int × Int × Int × Int × Int × Int × Int × List (Int) × Int × Int × Int × Int × List (Int) × Int × Int × Int) × Int) : Option ((Int × List (Int)) × (Int × Int × Int × Int × Int × Int × Int × Int × Int × Int × List (Int) × Int × Int × Int × Int × List (Int) × Int × Int × Int) × Int) :=
  Option.bind (f91 k (x.1, (2 : Int))) fun r1 =>
  bif (!r1) then
    some (((0 : Int), []), ((0 : Int), (0 : Int), (0 : Int), (0 : Int), (0 : Int), (0 : Int), (0 : Int), (0 : Int), (0 : Int), (0 : Int), [], (0 : Int), (0 : Int), (0 : Int), (0 : Int), [], (0 : Int), (0 : Int), (0 : Int)), (1 : Int))
  else
    Option.bind (f100 k x.2) fun r2 =>
    bif r2 then
      some (((0 : Int), []), ((0 : Int), (0 : Int), (0 : Int), (0 : Int), (0 : Int), (0 : Int), (0 : Int), (0 : Int), (0 : Int), (0 : Int), [], (0 : Int), (0 : Int), (0 : Int), (0 : Int), [], (0 : Int), (0 : Int), (0 : Int)), (2 : Int))
    else
    bif (x.1.2.1 == (7 : Int)) then
      some (((0 : Int), []), ((0 : Int), (0 : Int), (0 : Int), (0 : Int), (0 : Int), (0 : Int), (0 : Int), (0 : Int), (0 : Int), (0 : Int), [], (0 : Int), (0 : Int), (0 : Int), (0 : Int), [], (0 : Int), (0 : Int), (0 : Int)), (9 : Int))
    else
      Option.bind (f49 k x.1) fun r3 =>
      Option.bind (f132 k ((x.1.2.2.2.2.2.2.2.2.2.2.2.1, x.1.2.2.2.2.2.2.2.2.2.2.2.2.1, x.1.2.2.2.2.2.2.2.2.2.2.2.2.2.1, x.1.2.2.2.2.2.2.2.2.2.2.2.2.2.2.1, x.1.2.2.2.2.2.2.2.2.2.2.2.2.2.2.2.1), (if r3 < x.2 then r3 else x.2))) fun r4 =>
      Option.bind (f96 k x.1) fun r5 =>
      some (r4.1, (r5.1, r5.2.1, r5.2.2.1, r5.2.2.2.1, r5.2.2.2.2.1, r5.2.2.2.2.2.1, r5.2.2.2.2.2.2.1, r5.2.2.2.2.2.2.2.1, r5.2.2.2.2.2.2.2.2.1, r5.2.2.2.2.2.2.2.2.2.1, r5.2.2.2.2.2.2.2.2.2.2.1, r4.2.2.1.1, r4.2.2.1.2.1, r4.2.2.1.2.2.1, r4.2.2.1.2.2.2.1, r4.2.2.1.2.2.2.2, (IntKind.wrap .i64 (r5.2.2.2.2.2.2.2.2.2.2.2.2.2.2.2.2.1 + (if r3 < x.2 then r3 else x.2))), r5.2.2.2.2.2.2.2.2.2.2.2.2.2.2.2.2.2), (0 : Int))
/-- soundservice/soundservicelaw20.StreamWrites -/
noncomputable def L8_10 (k : Nat) {R : Type} (K0 : Bool → Option R) (K1 : (Int × Int × Int × Int × (Int × List (Int)) × (Int × Int × Int × Int × Int × Int × Int × Int × Int × Int × List (Int) × Int × Int × Int × Int × List (Int) × Int × Int × Int) × List (Int) × List (Int × Int × Int × Int × Int × Int × Int × Int × Int × Int × List (Int) × Int × Int × Int × Int × List (Int) × Int × Int × Int)) → Option R) (y : Int × Int × Int × Int × Int × Int × (Int × List (Int)) × (Int × Int × Int × Int × Int × Int × Int × Int × Int × Int × List (Int) × Int × Int × Int × Int × List (Int) × Int × Int × Int) × List (Int) × (List (Int × Int × Int × Int × Int × Int × Int × Int × Int × Int × List (Int) × Int × Int × Int × Int × List (Int) × Int × Int × Int)) × List (Int × List (Int))) (next : (Int × Int × Int × Int × Int × Int × (Int × List (Int)) × (Int × Int × Int × Int × Int × Int × Int × Int × Int × Int × List (Int) × Int × Int × Int × Int × List (Int) × Int × Int × Int) × List (Int) × (List (Int × Int × Int × Int × Int × Int × Int × Int × Int × Int × List (Int) × Int × Int × Int × Int × List (Int) × Int × Int × Int)) × List (Int × List (Int))) → Option R) : Option R :=
  bif (decide (y.2.2.2.2.2.1 < y.2.2.2.2.1)) then
    bif (decide (0 ≤ y.2.2.2.2.2.1) && decide (y.2.2.2.2.2.1 < ((y.2.2.2.2.2.2.2.2.2.2).length : Int))) then
      Option.bind (f27 k (y.2.2.2.2.2.2.2.1, ((y.2.2.2.2.2.2.2.2.2.2).getD (y.2.2.2.2.2.1).toNat ((0 : Int), [])))) fun r8 =>
      Option.bind (f57 k (y.2.2.2.2.2.2.2.1, ((y.2.2.2.2.2.2.2.2.2.2).getD (y.2.2.2.2.2.1).toNat ((0 : Int), [])))) fun r9 =>
      bif (r8.2 != r9.2) then
        K0 false
      else
        Option.bind (f54 k (r8.1, r9.1)) fun r10 =>
        bif (!r10) then
          K0 false
        else
          next (y.1, y.2.1, y.2.2.1, y.2.2.2.1, y.2.2.2.2.1, (IntKind.wrap .i64 (y.2.2.2.2.2.1 + (1 : Int))), y.2.2.2.2.2.2)
    else
      none
  else
    K1 (y.1, y.2.1, y.2.2.1, y.2.2.2.1, y.2.2.2.2.2.2.1, y.2.2.2.2.2.2.2.1, y.2.2.2.2.2.2.2.2.1, y.2.2.2.2.2.2.2.2.2.1)
noncomputable def L8_18 (k : Nat) {R : Type} (K0 : Bool → Option R) (K1 : (Int × Int × Int × Int × (Int × List (Int)) × (Int × Int × Int × Int × Int × Int × Int × Int × Int × Int × List (Int) × Int × Int × Int × Int × List (Int) × Int × Int × Int) × List (Int) × List (Int × Int × Int × Int × Int × Int × Int × Int × Int × Int × List (Int) × Int × Int × Int × Int × List (Int) × Int × Int × Int)) → Option R) (y : Int × Int × Int × Int × Int × Int × (Int × List (Int)) × (Int × Int × Int × Int × Int × Int × Int × Int × Int × Int × List (Int) × Int × Int × Int × Int × List (Int) × Int × Int × Int) × List (Int) × (List (Int × Int × Int × Int × Int × Int × Int × Int × Int × Int × List (Int) × Int × Int × Int × Int × List (Int) × Int × Int × Int)) × List (Int)) (next : (Int × Int × Int × Int × Int × Int × (Int × List (Int)) × (Int × Int × Int × Int × Int × Int × Int × Int × Int × Int × List (Int) × Int × Int × Int × Int × List (Int) × Int × Int × Int) × List (Int) × (List (Int × Int × Int × Int × Int × Int × Int × Int × Int × Int × List (Int) × Int × Int × Int × Int × List (Int) × Int × Int × Int)) × List (Int)) → Option R) : Option R :=
  bif (decide (y.2.2.2.2.2.1 < y.2.2.2.2.1)) then
    bif (decide (0 ≤ y.2.2.2.2.2.1) && decide (y.2.2.2.2.2.1 < ((y.2.2.2.2.2.2.2.2.2.2).length : Int))) then
      Option.bind (f58 k (y.2.2.2.2.2.2.2.1, ((y.2.2.2.2.2.2.2.2.2.2).getD (y.2.2.2.2.2.1).toNat (0 : Int)))) fun r13 =>
      Option.bind (f59 k (y.2.2.2.2.2.2.2.1, ((y.2.2.2.2.2.2.2.2.2.2).getD (y.2.2.2.2.2.1).toNat (0 : Int)))) fun r14 =>
      bif (r13.2.2 != r14.2.2) then
        K0 false
      else
        Option.bind (f54 k (r13.2.1, r14.2.1)) fun r15 =>
        bif (!r15) then
          K0 false
        else
          Option.bind (f17 k (r13.1, r14.1)) fun r16 =>
          bif (!r16) then
            K0 false
          else
            next (y.1, y.2.1, y.2.2.1, y.2.2.2.1, y.2.2.2.2.1, (IntKind.wrap .i64 (y.2.2.2.2.2.1 + (1 : Int))), y.2.2.2.2.2.2)
    else
      none
  else
    K1 (y.1, y.2.1, y.2.2.1, y.2.2.2.1, y.2.2.2.2.2.2.1, y.2.2.2.2.2.2.2.1, y.2.2.2.2.2.2.2.2.1, y.2.2.2.2.2.2.2.2.2.1)
noncomputable def L8_26 (k : Nat) {R : Type} (K0 : Bool → Option R) (K1 : (Int × Int × Int × Int × (Int × List (Int)) × List (Int) × List (Int × Int × Int × Int × Int × Int × Int × Int × Int × Int × List (Int) × Int × Int × Int × Int × List (Int) × Int × Int × Int)) → Option R) (y : Int × Int × Int × Int × Int × Int × (Int × List (Int)) × (Int × Int × Int × Int × Int × Int × Int × Int × Int × Int × List (Int) × Int × Int × Int × Int × List (Int) × Int × Int × Int) × List (Int) × (List (Int × Int × Int × Int × Int × Int × Int × Int × Int × Int × List (Int) × Int × Int × Int × Int × List (Int) × Int × Int × Int)) × List (Int)) (next : (Int × Int × Int × Int × Int × Int × (Int × List (Int)) × (Int × Int × Int × Int × Int × Int × Int × Int × Int × Int × List (Int) × Int × Int × Int × Int × List (Int) × Int × Int × Int) × List (Int) × (List (Int × Int × Int × Int × Int × Int × Int × Int × Int × Int × List (Int) × Int × Int × Int × Int × List (Int) × Int × Int × Int)) × List (Int)) → Option R) : Option R :=
  bif (decide (y.2.2.2.2.2.1 < y.2.2.2.2.1)) then
    bif (decide (0 ≤ y.2.2.2.2.2.1) && decide (y.2.2.2.2.2.1 < ((y.2.2.2.2.2.2.2.2.2.2).length : Int))) then
      Option.bind (f28 k (y.2.2.2.2.2.2.2.1, ((y.2.2.2.2.2.2.2.2.2.2).getD (y.2.2.2.2.2.1).toNat (0 : Int)))) fun r19 =>
      Option.bind (f60 k (y.2.2.2.2.2.2.2.1, ((y.2.2.2.2.2.2.2.2.2.2).getD (y.2.2.2.2.2.1).toNat (0 : Int)))) fun r20 =>
      bif (r19.2 != r20.2) then
        K0 false
      else
        Option.bind (f54 k (r19.1, r20.1)) fun r21 =>
        bif (!r21) then
          K0 false
        else
          next (y.1, y.2.1, y.2.2.1, y.2.2.2.1, y.2.2.2.2.1, (IntKind.wrap .i64 (y.2.2.2.2.2.1 + (1 : Int))), y.2.2.2.2.2.2)
    else
      none
  else
    K1 (y.1, y.2.1, y.2.2.1, y.2.2.2.1, y.2.2.2.2.2.2.1, y.2.2.2.2.2.2.2.2.1, y.2.2.2.2.2.2.2.2.2.1)
noncomputable def L8_7 (k : Nat) {R : Type} (K0 : Bool → Option R) (K1 : Unit → Option R) (y : Int × Int × Int × Int × (Int × List (Int)) × List (Int) × List (Int × Int × Int × Int × Int × Int × Int × Int × Int × Int × List (Int) × Int × Int × Int × Int × List (Int) × Int × Int × Int)) (next : (Int × Int × Int × Int × (Int × List (Int)) × List (Int) × List (Int × Int × Int × Int × Int × Int × Int × Int × Int × Int × List (Int) × Int × Int × Int × Int × List (Int) × Int × Int × Int)) → Option R) : Option R :=
  bif (decide (y.2.2.2.1 < y.2.2.1)) then
    bif (decide (0 ≤ y.2.2.2.1) && decide (y.2.2.2.1 < ((y.2.2.2.2.2.2).length : Int))) then
      Option.bind (f13 k (y.2.2.2.2.2.1, (30 : Int))) fun r6 =>
      Option.bind (f55 k ((1 : Int), (1 : Int), (0 : Int), r6.1)) fun r7 =>
      loopC k (L8_10 k
        (fun z11 =>
          K0 z11)
        (fun z12 =>
          loopC k (L8_18 k
            (fun z17 =>
              K0 z17)
            (fun z18 =>
              loopC k (L8_26 k
                (fun z22 =>
                  K0 z22)
                (fun z23 =>
                  next (z23.1, z23.2.1, z23.2.2.1, (IntKind.wrap .i64 (z23.2.2.2.1 + (1 : Int))), z23.2.2.2.2)))
                (z18.1, z18.2.1, z18.2.2.1, z18.2.2.2.1, (((([z18.2.1, (1 : Int), (2 : Int), (3 : Int), (4 : Int), (5 : Int), (6 : Int), (7 : Int)])).length : Int)), (0 : Int), z18.2.2.2.2.1, z18.2.2.2.2.2.1, z18.2.2.2.2.2.2.1, z18.2.2.2.2.2.2.2, ([z18.2.1, (1 : Int), (2 : Int), (3 : Int), (4 : Int), (5 : Int), (6 : Int), (7 : Int)]))))
            (z12.1, z12.2.1, z12.2.2.1, z12.2.2.2.1, (((([z12.1, (Int.tmod z12.1 (40 : Int))])).length : Int)), (0 : Int), z12.2.2.2.2.1, z12.2.2.2.2.2.1, z12.2.2.2.2.2.2.1, z12.2.2.2.2.2.2.2, ([z12.1, (Int.tmod z12.1 (40 : Int))]))))
        (y.1, y.2.1, y.2.2.1, y.2.2.2.1, (((([y.2.2.2.2.1, r7, ((2 : Int), [])])).length : Int)), (0 : Int), y.2.2.2.2.1, ((y.2.2.2.2.2.2).getD (y.2.2.2.1).toNat ((0 : Int), (0 : Int), (0 : Int), (0 : Int), (0 : Int), (0 : Int), (0 : Int), (0 : Int), (0 : Int), (0 : Int), [], (0 : Int), (0 : Int), (0 : Int), (0 : Int), [], (0 : Int), (0 : Int), (0 : Int))), r6.2, y.2.2.2.2.2.2, ([y.2.2.2.2.1, r7, ((2 : Int), [])]))
    else
      none
  else
    K1 ()
noncomputable def f8 (k : Nat) (x : (Int × Int × Int × Int × Int × Int × Int × Int × Int × Int × List (Int) × Int × Int × Int × Int × List (Int) × Int × Int × Int) × (Int × List (Int)) × List (Int) × Int × Int) : Option (Bool) :=
  Option.bind (f43 k ()) fun r1 =>
  bif (!r1) then
    some false
  else
    Option.bind (f44 k (x.1, (300 : Int))) fun r2 =>
    bif (!r2) then
      some true
    else
      Option.bind (f56 k (x.2.1, (300 : Int))) fun r3 =>
      bif (!r3) then
        some true
      else
        Option.bind (f12 k x.2.2.1) fun r4 =>
        Option.bind (f45 k r4) fun r5 =>
        loopC k (L8_7 k
          (fun z24 =>
            some z24)
          (fun z25 =>
            some true))
          (x.2.2.2.1, x.2.2.2.2, (((([x.1, r5.1])).length : Int)), (0 : Int), x.2.1, r5.2, ([x.1, r5.1]))
/-- soundservice/soundservicelaw20.light -/
noncomputable def f62 (k : Nat) (x : Int × Int × Int × Int × Int × Int × Int × Int × Int × Int × List (Int) × Int × Int × Int × Int × List (Int) × Int × Int × Int) : Option (Bool) :=
  bif (decide (x.2.2.2.2.2.2.1 ≤ (IntKind.wrap .i64 ((100 : Int) * x.2.2.2.2.2.1)))) then
    some true
  else
    some (x.1 == (1 : Int))
/-- soundservice/resample.Convert -/
noncomputable def f137 (k : Nat) (x : (Int × Int × Int × Int × Int × Int × List (Int)) × Int × List (Int)) : Option ((Int × List (Int)) × (Int × Int × Int × Int × Int × Int × List (Int)) × Int) :=
  Option.bind (f93 k x) fun r1 =>
  bif (r1.2 != (0 : Int)) then
    some (((0 : Int), []), ((0 : Int), (0 : Int), (0 : Int), (0 : Int), (0 : Int), (0 : Int), []), r1.2)
  else
  bif (r1.1.1 == 0) then
    none
  else
    Option.bind (f102 k ((r1.1.2.1, r1.1.2.2.1, r1.1.2.2.2.1, r1.1.2.2.2.2.1, r1.1.2.2.2.2.2.1), (IntKind.wrap .i64 (Int.tdiv (((r1.1.2.2.2.2.2.2).length : Int)) r1.1.1)))) fun r2 =>
    Option.bind (f103 k (r1.1, r2.1)) fun r3 =>
    some r3
/-- soundservice/ring.Write -/
noncomputable def f138 (k : Nat) (x : (Int × Int × Int × Int × List (Int)) × Int × List (Int)) : Option ((Int × Int × Int × Int × List (Int)) × Int × Int) :=
  Option.bind (f125 k x.1) fun r1 =>
  bif (!r1) then
    some (((0 : Int), (0 : Int), (0 : Int), (0 : Int), []), (0 : Int), (1 : Int))
  else
    Option.bind (f92 k x.2) fun r2 =>
    bif (!r2) then
      some (((0 : Int), (0 : Int), (0 : Int), (0 : Int), []), (0 : Int), (1 : Int))
    else
    bif (x.2.1 != x.1.1) then
      some (((0 : Int), (0 : Int), (0 : Int), (0 : Int), []), (0 : Int), (11 : Int))
    else
    bif (x.2.1 == 0) then
      none
    else
      Option.bind (f128 k x.1) fun r3 =>
      bif (decide ((IntKind.wrap .i64 (x.1.2.2.1 + (if (IntKind.wrap .i64 (x.1.2.1 - r3)) < (IntKind.wrap .i64 (Int.tdiv (((x.2.2).length : Int)) x.2.1)) then (IntKind.wrap .i64 (x.1.2.1 - r3)) else (IntKind.wrap .i64 (Int.tdiv (((x.2.2).length : Int)) x.2.1))))) > (1125899906842624 : Int))) then
        some (((0 : Int), (0 : Int), (0 : Int), (0 : Int), []), (0 : Int), (2 : Int))
      else
      bif (decide (0 ≤ (0 : Int)) && decide ((0 : Int) ≤ (IntKind.wrap .i64 ((if (IntKind.wrap .i64 (x.1.2.1 - r3)) < (IntKind.wrap .i64 (Int.tdiv (((x.2.2).length : Int)) x.2.1)) then (IntKind.wrap .i64 (x.1.2.1 - r3)) else (IntKind.wrap .i64 (Int.tdiv (((x.2.2).length : Int)) x.2.1))) * x.2.1))) && decide ((IntKind.wrap .i64 ((if (IntKind.wrap .i64 (x.1.2.1 - r3)) < (IntKind.wrap .i64 (Int.tdiv (((x.2.2).length : Int)) x.2.1)) then (IntKind.wrap .i64 (x.1.2.1 - r3)) else (IntKind.wrap .i64 (Int.tdiv (((x.2.2).length : Int)) x.2.1))) * x.2.1)) ≤ (IntKind.wrap .i64 ((if (IntKind.wrap .i64 (x.1.2.1 - r3)) < (IntKind.wrap .i64 (Int.tdiv (((x.2.2).length : Int)) x.2.1)) then (IntKind.wrap .i64 (x.1.2.1 - r3)) else (IntKind.wrap .i64 (Int.tdiv (((x.2.2).length : Int)) x.2.1))) * x.2.1))) && decide ((IntKind.wrap .i64 ((if (IntKind.wrap .i64 (x.1.2.1 - r3)) < (IntKind.wrap .i64 (Int.tdiv (((x.2.2).length : Int)) x.2.1)) then (IntKind.wrap .i64 (x.1.2.1 - r3)) else (IntKind.wrap .i64 (Int.tdiv (((x.2.2).length : Int)) x.2.1))) * x.2.1)) ≤ (((x.2.2).length : Int)))) then
        Option.bind (f165 k ([x.1.2.2.2.2, (((x.2.2).take ((IntKind.wrap .i64 ((if (IntKind.wrap .i64 (x.1.2.1 - r3)) < (IntKind.wrap .i64 (Int.tdiv (((x.2.2).length : Int)) x.2.1)) then (IntKind.wrap .i64 (x.1.2.1 - r3)) else (IntKind.wrap .i64 (Int.tdiv (((x.2.2).length : Int)) x.2.1))) * x.2.1))).toNat).drop ((0 : Int)).toNat)])) fun r4 =>
        some ((x.1.1, x.1.2.1, (IntKind.wrap .i64 (x.1.2.2.1 + (if (IntKind.wrap .i64 (x.1.2.1 - r3)) < (IntKind.wrap .i64 (Int.tdiv (((x.2.2).length : Int)) x.2.1)) then (IntKind.wrap .i64 (x.1.2.1 - r3)) else (IntKind.wrap .i64 (Int.tdiv (((x.2.2).length : Int)) x.2.1))))), x.1.2.2.2.1, r4), (IntKind.wrap .i64 ((IntKind.wrap .i64 (Int.tdiv (((x.2.2).length : Int)) x.2.1)) - (if (IntKind.wrap .i64 (x.1.2.1 - r3)) < (IntKind.wrap .i64 (Int.tdiv (((x.2.2).length : Int)) x.2.1)) then (IntKind.wrap .i64 (x.1.2.1 - r3)) else (IntKind.wrap .i64 (Int.tdiv (((x.2.2).length : Int)) x.2.1))))), (0 : Int))
      else
        none
/-- soundservice/stream.Give -/
noncomputable def f63 (k : Nat) (x : (Int × Int × Int × Int × Int × Int × Int × Int × Int × Int × List (Int) × Int × Int × Int × Int × List (Int) × Int × Int × Int) × Int × List (Int)) : Option (Int × (Int × Int × Int × Int × Int × Int × Int × Int × Int × Int × List (Int) × Int × Int × Int × Int × List (Int) × Int × Int × Int) × Int) :=
  Option.bind (f91 k (x.1, (2 : Int))) fun r1 =>
  bif (!r1) then
    some ((0 : Int), ((0 : Int), (0 : Int), (0 : Int), (0 : Int), (0 : Int), (0 : Int), (0 : Int), (0 : Int), (0 : Int), (0 : Int), [], (0 : Int), (0 : Int), (0 : Int), (0 : Int), [], (0 : Int), (0 : Int), (0 : Int)), (1 : Int))
  else
    Option.bind (f92 k x.2) fun r2 =>
    bif (!r2) then
      some ((0 : Int), ((0 : Int), (0 : Int), (0 : Int), (0 : Int), (0 : Int), (0 : Int), (0 : Int), (0 : Int), (0 : Int), (0 : Int), [], (0 : Int), (0 : Int), (0 : Int), (0 : Int), [], (0 : Int), (0 : Int), (0 : Int)), (1 : Int))
    else
    bif (x.2.1 != x.1.2.2.2.2.1) then
      some ((0 : Int), ((0 : Int), (0 : Int), (0 : Int), (0 : Int), (0 : Int), (0 : Int), (0 : Int), (0 : Int), (0 : Int), (0 : Int), [], (0 : Int), (0 : Int), (0 : Int), (0 : Int), [], (0 : Int), (0 : Int), (0 : Int)), (11 : Int))
    else
    bif (x.1.2.1 != (3 : Int)) then
      Option.bind (f96 k x.1) fun r3 =>
      some ((0 : Int), r3, (0 : Int))
    else
      Option.bind (f137 k ((x.1.2.2.2.2.1, x.1.2.2.2.2.2.1, x.1.2.2.2.2.2.2.1, x.1.2.2.2.2.2.2.2.1, x.1.2.2.2.2.2.2.2.2.1, x.1.2.2.2.2.2.2.2.2.2.1, x.1.2.2.2.2.2.2.2.2.2.2.1), x.2)) fun r4 =>
      bif (r4.2.2 != (0 : Int)) then
        some ((0 : Int), ((0 : Int), (0 : Int), (0 : Int), (0 : Int), (0 : Int), (0 : Int), (0 : Int), (0 : Int), (0 : Int), (0 : Int), [], (0 : Int), (0 : Int), (0 : Int), (0 : Int), [], (0 : Int), (0 : Int), (0 : Int)), r4.2.2)
      else
        Option.bind (f138 k ((x.1.2.2.2.2.2.2.2.2.2.2.2.1, x.1.2.2.2.2.2.2.2.2.2.2.2.2.1, x.1.2.2.2.2.2.2.2.2.2.2.2.2.2.1, x.1.2.2.2.2.2.2.2.2.2.2.2.2.2.2.1, x.1.2.2.2.2.2.2.2.2.2.2.2.2.2.2.2.1), r4.1)) fun r5 =>
        bif (r5.2.2 != (0 : Int)) then
          some ((0 : Int), ((0 : Int), (0 : Int), (0 : Int), (0 : Int), (0 : Int), (0 : Int), (0 : Int), (0 : Int), (0 : Int), (0 : Int), [], (0 : Int), (0 : Int), (0 : Int), (0 : Int), [], (0 : Int), (0 : Int), (0 : Int)), r5.2.2)
        else
        bif (x.2.1 == 0) then
          none
        else
          some (r5.2.1, (x.1.1, x.1.2.1, x.1.2.2.1, x.1.2.2.2.1, r4.2.1.1, r4.2.1.2.1, r4.2.1.2.2.1, r4.2.1.2.2.2.1, r4.2.1.2.2.2.2.1, r4.2.1.2.2.2.2.2.1, r4.2.1.2.2.2.2.2.2, r5.1.1, r5.1.2.1, r5.1.2.2.1, r5.1.2.2.2.1, r5.1.2.2.2.2, x.1.2.2.2.2.2.2.2.2.2.2.2.2.2.2.2.2.1, (IntKind.wrap .i64 (x.1.2.2.2.2.2.2.2.2.2.2.2.2.2.2.2.2.2.1 + (IntKind.wrap .i64 (Int.tdiv (((x.2.2).length : Int)) x.2.1)))), (IntKind.wrap .i64 (x.1.2.2.2.2.2.2.2.2.2.2.2.2.2.2.2.2.2.2 + r5.2.1))), (0 : Int))
/-- soundservice/soundservicelaw20.StreamMoves -/
noncomputable def L9_10 (k : Nat) {R : Type} (K0 : Bool → Option R) (K1 : (Int × Int × Int × (Int × List (Int)) × (Int × Int × Int × Int × Int × Int × Int × Int × Int × Int × List (Int) × Int × Int × Int × Int × List (Int) × Int × Int × Int) × List (Int) × List (Int × Int × Int × Int × Int × Int × Int × Int × Int × Int × List (Int) × Int × Int × Int × Int × List (Int) × Int × Int × Int)) → Option R) (y : Int × Int × Int × Int × Int × (Int × List (Int)) × (Int × Int × Int × Int × Int × Int × Int × Int × Int × Int × List (Int) × Int × Int × Int × Int × List (Int) × Int × Int × Int) × List (Int) × (List (Int × Int × Int × Int × Int × Int × Int × Int × Int × Int × List (Int) × Int × Int × Int × Int × List (Int) × Int × Int × Int)) × List (Int)) (next : (Int × Int × Int × Int × Int × (Int × List (Int)) × (Int × Int × Int × Int × Int × Int × Int × Int × Int × Int × List (Int) × Int × Int × Int × Int × List (Int) × Int × Int × Int) × List (Int) × (List (Int × Int × Int × Int × Int × Int × Int × Int × Int × Int × List (Int) × Int × Int × Int × Int × List (Int) × Int × Int × Int)) × List (Int)) → Option R) : Option R :=
  bif (decide (y.2.2.2.2.1 < y.2.2.2.1)) then
    bif (decide (0 ≤ y.2.2.2.2.1) && decide (y.2.2.2.2.1 < ((y.2.2.2.2.2.2.2.2.2).length : Int))) then
      Option.bind (f33 k (y.2.2.2.2.2.2.1, ((y.2.2.2.2.2.2.2.2.2).getD (y.2.2.2.2.1).toNat (0 : Int)))) fun r6 =>
      Option.bind (f61 k (y.2.2.2.2.2.2.1, ((y.2.2.2.2.2.2.2.2.2).getD (y.2.2.2.2.1).toNat (0 : Int)))) fun r7 =>
      bif (r6.2.1 != r7.2.1) then
        K0 false
      else
      bif (r6.2.2.2 != r7.2.2.2) then
        K0 false
      else
        Option.bind (f54 k (r6.2.2.1, r7.2.2.1)) fun r8 =>
        bif (!r8) then
          K0 false
        else
          Option.bind (f17 k (r6.1, r7.1)) fun r9 =>
          bif (!r9) then
            K0 false
          else
            next (y.1, y.2.1, y.2.2.1, y.2.2.2.1, (IntKind.wrap .i64 (y.2.2.2.2.1 + (1 : Int))), y.2.2.2.2.2)
    else
      none
  else
    K1 (y.1, y.2.1, y.2.2.1, y.2.2.2.2.2.1, y.2.2.2.2.2.2.1, y.2.2.2.2.2.2.2.1, y.2.2.2.2.2.2.2.2.1)
noncomputable def L9_19 (k : Nat) {R : Type} (K0 : Bool → Option R) (K1 : (Int × Int × Int × (Int × List (Int)) × List (Int) × List (Int × Int × Int × Int × Int × Int × Int × Int × Int × Int × List (Int) × Int × Int × Int × Int × List (Int) × Int × Int × Int)) → Option R) (y : Int × Int × Int × Int × Int × (Int × List (Int)) × (Int × Int × Int × Int × Int × Int × Int × Int × Int × Int × List (Int) × Int × Int × Int × Int × List (Int) × Int × Int × Int) × List (Int) × (List (Int × Int × Int × Int × Int × Int × Int × Int × Int × Int × List (Int) × Int × Int × Int × Int × List (Int) × Int × Int × Int)) × List (Int × List (Int))) (next : (Int × Int × Int × Int × Int × (Int × List (Int)) × (Int × Int × Int × Int × Int × Int × Int × Int × Int × Int × List (Int) × Int × Int × Int × Int × List (Int) × Int × Int × Int) × List (Int) × (List (Int × Int × Int × Int × Int × Int × Int × Int × Int × Int × List (Int) × Int × Int × Int × Int × List (Int) × Int × Int × Int)) × List (Int × List (Int))) → Option R) : Option R :=
  bif (decide (y.2.2.2.2.1 < y.2.2.2.1)) then
    bif (decide (0 ≤ y.2.2.2.2.1) && decide (y.2.2.2.2.1 < ((y.2.2.2.2.2.2.2.2.2).length : Int))) then
      Option.bind (f63 k (y.2.2.2.2.2.2.1, ((y.2.2.2.2.2.2.2.2.2).getD (y.2.2.2.2.1).toNat ((0 : Int), [])))) fun r15 =>
      Option.bind (f64 k (y.2.2.2.2.2.2.1, ((y.2.2.2.2.2.2.2.2.2).getD (y.2.2.2.2.1).toNat ((0 : Int), [])))) fun r16 =>
      bif (r15.1 != r16.1) then
        K0 false
      else
      bif (r15.2.2 != r16.2.2) then
        K0 false
      else
        Option.bind (f54 k (r15.2.1, r16.2.1)) fun r17 =>
        bif (!r17) then
          K0 false
        else
          next (y.1, y.2.1, y.2.2.1, y.2.2.2.1, (IntKind.wrap .i64 (y.2.2.2.2.1 + (1 : Int))), y.2.2.2.2.2)
    else
      none
  else
    K1 (y.1, y.2.1, y.2.2.1, y.2.2.2.2.2.1, y.2.2.2.2.2.2.2.1, y.2.2.2.2.2.2.2.2.1)
noncomputable def L9_7 (k : Nat) {R : Type} (K0 : Bool → Option R) (K1 : Unit → Option R) (y : Int × Int × Int × (Int × List (Int)) × List (Int) × List (Int × Int × Int × Int × Int × Int × Int × Int × Int × Int × List (Int) × Int × Int × Int × Int × List (Int) × Int × Int × Int)) (next : (Int × Int × Int × (Int × List (Int)) × List (Int) × List (Int × Int × Int × Int × Int × Int × Int × Int × Int × Int × List (Int) × Int × Int × Int × Int × List (Int) × Int × Int × Int)) → Option R) : Option R :=
  bif (decide (y.2.2.1 < y.2.1)) then
    bif (decide (0 ≤ y.2.2.1) && decide (y.2.2.1 < ((y.2.2.2.2.2).length : Int))) then
      loopC k (L9_10 k
        (fun z10 =>
          K0 z10)
        (fun z11 =>
          Option.bind (f62 k z11.2.2.2.2.1) fun r12 =>
          bif (!r12) then
            next (z11.1, z11.2.1, (IntKind.wrap .i64 (z11.2.2.1 + (1 : Int))), z11.2.2.2.1, z11.2.2.2.2.2)
          else
            Option.bind (f13 k (z11.2.2.2.2.2.1, (20 : Int))) fun r13 =>
            Option.bind (f55 k ((2 : Int), (1 : Int), (0 : Int), r13.1)) fun r14 =>
            loopC k (L9_19 k
              (fun z18 =>
                K0 z18)
              (fun z19 =>
                next (z19.1, z19.2.1, (IntKind.wrap .i64 (z19.2.2.1 + (1 : Int))), z19.2.2.2)))
              (z11.1, z11.2.1, z11.2.2.1, (((([z11.2.2.2.1, r14])).length : Int)), (0 : Int), z11.2.2.2.1, z11.2.2.2.2.1, r13.2, z11.2.2.2.2.2.2, ([z11.2.2.2.1, r14]))))
        (y.1, y.2.1, y.2.2.1, (((([y.1, (Int.tmod (IntKind.wrap .i64 ((Int.tmod y.1 (50 : Int)) + (50 : Int))) (50 : Int))])).length : Int)), (0 : Int), y.2.2.2.1, ((y.2.2.2.2.2).getD (y.2.2.1).toNat ((0 : Int), (0 : Int), (0 : Int), (0 : Int), (0 : Int), (0 : Int), (0 : Int), (0 : Int), (0 : Int), (0 : Int), [], (0 : Int), (0 : Int), (0 : Int), (0 : Int), [], (0 : Int), (0 : Int), (0 : Int))), y.2.2.2.2.1, y.2.2.2.2.2, ([y.1, (Int.tmod (IntKind.wrap .i64 ((Int.tmod y.1 (50 : Int)) + (50 : Int))) (50 : Int))]))
    else
      none
  else
    K1 ()
noncomputable def f9 (k : Nat) (x : (Int × Int × Int × Int × Int × Int × Int × Int × Int × Int × List (Int) × Int × Int × Int × Int × List (Int) × Int × Int × Int) × (Int × List (Int)) × List (Int) × Int) : Option (Bool) :=
  Option.bind (f43 k ()) fun r1 =>
  bif (!r1) then
    some false
  else
    Option.bind (f44 k (x.1, (300 : Int))) fun r2 =>
    bif (!r2) then
      some true
    else
      Option.bind (f56 k (x.2.1, (100 : Int))) fun r3 =>
      bif (!r3) then
        some true
      else
      bif (decide (x.2.2.2 > (500 : Int))) then
        bif (decide (x.2.2.2 ≤ (65536 : Int))) then
          some true
        else
          Option.bind (f12 k x.2.2.1) fun r4 =>
          Option.bind (f45 k r4) fun r5 =>
          loopC k (L9_7 k
            (fun z20 =>
              some z20)
            (fun z21 =>
              some true))
            (x.2.2.2, (((([x.1, r5.1])).length : Int)), (0 : Int), x.2.1, r5.2, ([x.1, r5.1]))
      else
        Option.bind (f12 k x.2.2.1) fun r22 =>
        Option.bind (f45 k r22) fun r23 =>
        loopC k (L9_7 k
          (fun z24 =>
            some z24)
          (fun z25 =>
            some true))
          (x.2.2.2, (((([x.1, r23.1])).length : Int)), (0 : Int), x.2.1, r23.2, ([x.1, r23.1]))
/-- soundservice/soundservicelaw20.StreamEnds -/
noncomputable def L10_16 (k : Nat) {R : Type} (K0 : Bool → Option R) (K1 : (Int × Int × Int × Int × (Int × Int × Int × Int × Int × Int × Int × Int × Int × Int × List (Int) × Int × Int × Int × Int × List (Int) × Int × Int × Int) × (Int × List (Int)) × Int × Int × Int × Int × Int × Int × Int × Int × Int × Int × List (Int) × Int × Int × Int × Int × List (Int) × Int × Int × Int) → Option R) (y : Int × Int × Int × Int × List (Int) × Int × Int × (Int × Int × Int × Int × Int × Int × Int × Int × Int × Int × List (Int) × Int × Int × Int × Int × List (Int) × Int × Int × Int) × (Int × List (Int)) × Int × Int × Int × Int × Int × Int × Int × Int × Int × Int × List (Int) × Int × Int × Int × Int × List (Int) × Int × Int × Int) (next : (Int × Int × Int × Int × List (Int) × Int × Int × (Int × Int × Int × Int × Int × Int × Int × Int × Int × Int × List (Int) × Int × Int × Int × Int × List (Int) × Int × Int × Int) × (Int × List (Int)) × Int × Int × Int × Int × Int × Int × Int × Int × Int × Int × List (Int) × Int × Int × Int × Int × List (Int) × Int × Int × Int) → Option R) : Option R :=
  bif (decide (y.2.2.2.2.2.2.1 < y.2.2.2.2.2.1)) then
    bif (decide (0 ≤ y.2.2.2.2.2.2.1) && decide (y.2.2.2.2.2.2.1 < ((y.2.2.2.2.1).length : Int))) then
      bif (((y.2.2.2.2.1).getD (y.2.2.2.2.2.2.1).toNat (0 : Int)) != (0 : Int)) then
        K0 false
      else
        next (y.1, y.2.1, y.2.2.1, y.2.2.2.1, y.2.2.2.2.1, y.2.2.2.2.2.1, (IntKind.wrap .i64 (y.2.2.2.2.2.2.1 + (1 : Int))), y.2.2.2.2.2.2.2)
    else
      none
  else
    K1 (y.1, y.2.1, y.2.2.1, y.2.2.2.1, y.2.2.2.2.2.2.2)
noncomputable def f10 (k : Nat) (x : List (Int) × Int × Int) : Option (Bool) :=
  Option.bind (f43 k ()) fun r1 =>
  bif (!r1) then
    some false
  else
    Option.bind (f12 k x.1) fun r2 =>
    Option.bind (f45 k r2) fun r3 =>
    Option.bind (f13 k (r3.2, (2 : Int))) fun r4 =>
    bif (decide (0 ≤ r4.1) && decide (r4.1 < ((([(5 : Int), (6 : Int)])).length : Int))) then
      Option.bind (f28 k (r3.1, ((([(5 : Int), (6 : Int)])).getD (r4.1).toNat (0 : Int)))) fun r5 =>
      bif (r5.2 != (0 : Int)) then
        some (r5.2 == (9 : Int))
      else
        Option.bind (f28 k (r5.1, (IntKind.wrap .i64 (Int.tmod x.2.1 (9 : Int))))) fun r6 =>
        bif (r6.2 == (0 : Int)) then
          bif (r6.1.2.1 != (7 : Int)) then
            some false
          else
          bif (r6.2 != (0 : Int)) then
            bif (r6.1.2.1 != (0 : Int)) then
              some false
            else
            bif (r5.1.1 == (2 : Int)) then
              Option.bind (f55 k ((1 : Int), r5.1.2.2.2.2.1, (0 : Int), (IntKind.wrap .i64 (Int.tmod x.2.2 (20 : Int))))) fun r7 =>
              Option.bind (f63 k (r5.1, r7)) fun r8 =>
              bif (r8.2.2 == (0 : Int)) then
                bif (r8.1 == (0 : Int)) then
                  Option.bind (f54 k (r8.2.1, r5.1)) fun r9 =>
                  bif r9 then
                    Option.bind (f49 k r5.1) fun r10 =>
                    some (r10 == (0 : Int))
                  else
                    some false
                else
                  some false
              else
                some false
            else
              Option.bind (f33 k (r5.1, (IntKind.wrap .i64 (Int.tmod x.2.2 (40 : Int))))) fun r11 =>
              Option.bind (f55 k ((1 : Int), r5.1.2.2.2.2.1, (0 : Int), (1 : Int))) fun r12 =>
              Option.bind (f27 k (r5.1, r12)) fun r13 =>
              loopC k (L10_16 k
                (fun z14 =>
                  some z14)
                (fun z15 =>
                  bif (z15.2.2.1 == (0 : Int)) then
                    bif (z15.2.1 == (0 : Int)) then
                      Option.bind (f54 k (z15.2.2.2.2.2.2, z15.2.2.2.2.1)) fun r16 =>
                      bif r16 then
                        bif (z15.2.2.2.1 == (9 : Int)) then
                          Option.bind (f42 k z15.2.2.2.2.2.1) fun r17 =>
                          some (r17 == (IntKind.wrap .i64 (Int.tmod z15.1 (40 : Int))))
                        else
                          some false
                      else
                        some false
                    else
                      some false
                  else
                    some false))
                (x.2.2, r11.2.1, r11.2.2.2, r13.2, r11.1.2, (((r11.1.2).length : Int)), (0 : Int), r5.1, r11.1, r11.2.2.1)
          else
          bif (r5.1.1 == (2 : Int)) then
            Option.bind (f55 k ((1 : Int), r5.1.2.2.2.2.1, (0 : Int), (IntKind.wrap .i64 (Int.tmod x.2.2 (20 : Int))))) fun r18 =>
            Option.bind (f63 k (r5.1, r18)) fun r19 =>
            bif (r19.2.2 == (0 : Int)) then
              bif (r19.1 == (0 : Int)) then
                Option.bind (f54 k (r19.2.1, r5.1)) fun r20 =>
                bif r20 then
                  Option.bind (f49 k r5.1) fun r21 =>
                  some (r21 == (0 : Int))
                else
                  some false
              else
                some false
            else
              some false
          else
            Option.bind (f33 k (r5.1, (IntKind.wrap .i64 (Int.tmod x.2.2 (40 : Int))))) fun r22 =>
            Option.bind (f55 k ((1 : Int), r5.1.2.2.2.2.1, (0 : Int), (1 : Int))) fun r23 =>
            Option.bind (f27 k (r5.1, r23)) fun r24 =>
            loopC k (L10_16 k
              (fun z25 =>
                some z25)
              (fun z26 =>
                bif (z26.2.2.1 == (0 : Int)) then
                  bif (z26.2.1 == (0 : Int)) then
                    Option.bind (f54 k (z26.2.2.2.2.2.2, z26.2.2.2.2.1)) fun r27 =>
                    bif r27 then
                      bif (z26.2.2.2.1 == (9 : Int)) then
                        Option.bind (f42 k z26.2.2.2.2.2.1) fun r28 =>
                        some (r28 == (IntKind.wrap .i64 (Int.tmod z26.1 (40 : Int))))
                      else
                        some false
                    else
                      some false
                  else
                    some false
                else
                  some false))
              (x.2.2, r22.2.1, r22.2.2.2, r24.2, r22.1.2, (((r22.1.2).length : Int)), (0 : Int), r5.1, r22.1, r22.2.2.1)
        else
        bif (r6.2 != (0 : Int)) then
          bif (r6.1.2.1 != (0 : Int)) then
            some false
          else
          bif (r5.1.1 == (2 : Int)) then
            Option.bind (f55 k ((1 : Int), r5.1.2.2.2.2.1, (0 : Int), (IntKind.wrap .i64 (Int.tmod x.2.2 (20 : Int))))) fun r29 =>
            Option.bind (f63 k (r5.1, r29)) fun r30 =>
            bif (r30.2.2 == (0 : Int)) then
              bif (r30.1 == (0 : Int)) then
                Option.bind (f54 k (r30.2.1, r5.1)) fun r31 =>
                bif r31 then
                  Option.bind (f49 k r5.1) fun r32 =>
                  some (r32 == (0 : Int))
                else
                  some false
              else
                some false
            else
              some false
          else
            Option.bind (f33 k (r5.1, (IntKind.wrap .i64 (Int.tmod x.2.2 (40 : Int))))) fun r33 =>
            Option.bind (f55 k ((1 : Int), r5.1.2.2.2.2.1, (0 : Int), (1 : Int))) fun r34 =>
            Option.bind (f27 k (r5.1, r34)) fun r35 =>
            loopC k (L10_16 k
              (fun z36 =>
                some z36)
              (fun z37 =>
                bif (z37.2.2.1 == (0 : Int)) then
                  bif (z37.2.1 == (0 : Int)) then
                    Option.bind (f54 k (z37.2.2.2.2.2.2, z37.2.2.2.2.1)) fun r38 =>
                    bif r38 then
                      bif (z37.2.2.2.1 == (9 : Int)) then
                        Option.bind (f42 k z37.2.2.2.2.2.1) fun r39 =>
                        some (r39 == (IntKind.wrap .i64 (Int.tmod z37.1 (40 : Int))))
                      else
                        some false
                    else
                      some false
                  else
                    some false
                else
                  some false))
              (x.2.2, r33.2.1, r33.2.2.2, r35.2, r33.1.2, (((r33.1.2).length : Int)), (0 : Int), r5.1, r33.1, r33.2.2.1)
        else
        bif (r5.1.1 == (2 : Int)) then
          Option.bind (f55 k ((1 : Int), r5.1.2.2.2.2.1, (0 : Int), (IntKind.wrap .i64 (Int.tmod x.2.2 (20 : Int))))) fun r40 =>
          Option.bind (f63 k (r5.1, r40)) fun r41 =>
          bif (r41.2.2 == (0 : Int)) then
            bif (r41.1 == (0 : Int)) then
              Option.bind (f54 k (r41.2.1, r5.1)) fun r42 =>
              bif r42 then
                Option.bind (f49 k r5.1) fun r43 =>
                some (r43 == (0 : Int))
              else
                some false
            else
              some false
          else
            some false
        else
          Option.bind (f33 k (r5.1, (IntKind.wrap .i64 (Int.tmod x.2.2 (40 : Int))))) fun r44 =>
          Option.bind (f55 k ((1 : Int), r5.1.2.2.2.2.1, (0 : Int), (1 : Int))) fun r45 =>
          Option.bind (f27 k (r5.1, r45)) fun r46 =>
          loopC k (L10_16 k
            (fun z47 =>
              some z47)
            (fun z48 =>
              bif (z48.2.2.1 == (0 : Int)) then
                bif (z48.2.1 == (0 : Int)) then
                  Option.bind (f54 k (z48.2.2.2.2.2.2, z48.2.2.2.2.1)) fun r49 =>
                  bif r49 then
                    bif (z48.2.2.2.1 == (9 : Int)) then
                      Option.bind (f42 k z48.2.2.2.2.2.1) fun r50 =>
                      some (r50 == (IntKind.wrap .i64 (Int.tmod z48.1 (40 : Int))))
                    else
                      some false
                  else
                    some false
                else
                  some false
              else
                some false))
            (x.2.2, r44.2.1, r44.2.2.2, r46.2, r44.1.2, (((r44.1.2).length : Int)), (0 : Int), r5.1, r44.1, r44.2.2.1)
    else
      none
end Go.Proofs.YtbfkfobfhjgphaaGreat.Fn
