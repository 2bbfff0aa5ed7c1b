/- The Lean forms of functions of Go's library whose contracts are proved by hand. -/
import Derived.Test.YtbfkfobfhjgphaaGreatPevB
set_option linter.unusedVariables false
namespace Go.Proofs.YtbfkfobfhjgphaaGreat.Fn
open Go Go.Pev Go.Proofs
noncomputable def f169 (k : Nat) (x : List Int) : Option (List Int) := bif decide (x.length * 4 ≤ maxBytes) && decide (x.length ≤ maxLen) then some x else none
noncomputable def f221 (k : Nat) (x : Unit × Int) : Option (List Int) := bif decide (0 ≤ x.2) && decide (x.2.toNat * 4 ≤ maxBytes) then some [] else none
end Go.Proofs.YtbfkfobfhjgphaaGreat.Fn
