import Derived.Lib.SmallJoins
import Derived.Test.YtkcnmjdomipbjaaGreatS11
set_option linter.unusedVariables false
set_option maxHeartbeats 100000000
set_option maxRecDepth 100000
namespace Go.Proofs.YtkcnmjdomipbjaaGreat
open Go.RowKit
theorem hasB_snoc (l : List UInt8) (b c : UInt8) : hasB (l ++ [b]) c = (hasB l c || b == c) := by
 simp [hasB, List.contains_eq_mem]
 by_cases h : c ∈ l
 ·simp [h]
 by_cases h2 : b = c
 ·simp [h2]
 simp [h, h2, Ne.symm h2]
end Go.Proofs.YtkcnmjdomipbjaaGreat
