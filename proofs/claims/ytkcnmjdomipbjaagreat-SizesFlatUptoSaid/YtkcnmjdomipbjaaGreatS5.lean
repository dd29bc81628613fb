import Derived.Test.YtkcnmjdomipbjaaGreatRows
import Derived.Test.YtkcnmjdomipbjaaGreatS2
set_option linter.unusedVariables false
set_option maxHeartbeats 100000000
set_option maxRecDepth 100000
namespace Go.Proofs.YtkcnmjdomipbjaaGreat
open Go.RowKit
theorem lowB_int (n : Int) (h0 : 0 <= n) (h1 : n <= 255) : ((lowB (bOf n)).toNat : Int) = if 65 <= n /\ n <= 90 then n + 32 else n := by
 have hb : (bOf n).toNat = n.toNat := by have := bOf_toNat n h0 h1; omega
 unfold lowB
 simp only [UInt8.le_iff_toNat_le, hb]
 by_cases h : 65 <= n /\ n <= 90
 ·rw [if_pos h, if_pos (by simp; omega)];rw [UInt8.toNat_add, hb]; simp; omega
 rw [if_neg h, if_neg (by simp; omega), hb]; omega
def sHttp : List UInt8 := [104, 116, 116, 112]
def sHttps : List UInt8 := [104, 116, 116, 112, 115]
def sMailto : List UInt8 := [109, 97, 105, 108, 116, 111]
def allowedL (l : List UInt8) : Bool := l == sHttp || l == sHttps || l == sMailto
def schemeGo (pre : List UInt8) : List UInt8 -> List UInt8 × Bool
 | [] => ([], false)
 | c :: r => if c = 58 then (low pre, true) else if c = 47 ∨ c = 63 ∨ c = 35 then ([], false) else schemeGo (pre ++ [c]) r
end Go.Proofs.YtkcnmjdomipbjaaGreat
