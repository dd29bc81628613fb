import Derived.Below
set_option linter.unusedVariables false
set_option maxHeartbeats 100000000
set_option maxRecDepth 100000
namespace Go.Proofs.YtkcnmjdomipbjaaGreat
open Go.RowKit
def bOf (n : Int) : UInt8 := UInt8.ofNat n.toNat
theorem bOf_cast (c : UInt8) : bOf (c.toNat : Int) = c := by simp [bOf]
theorem bOf_toNat (n : Int) (h0 : 0 <= n) (h1 : n <= 255) : ((bOf n).toNat : Int) = n := by
 simp [bOf]; omega
theorem bOf_eq (n k : Int) (h0 : 0 <= n) (h1 : n <= 255) (k0 : 0 <= k) (k1 : k <= 255) : bOf n = bOf k ↔ n = k := by
 constructor
 ·intro h;have := congrArg UInt8.toNat h;simp [bOf] at this; omega
 intro h; rw [h]
def lowB (c : UInt8) : UInt8 := if 65 <= c /\ c <= 90 then c + 32 else c
def low (l : List UInt8) : List UInt8 := l.map lowB
theorem low_append (a b : List UInt8) : low (a ++ b) = low a ++ low b := by simp [low]
theorem low_length (a : List UInt8) : (low a).length = a.length := by simp [low]
def hasB (l : List UInt8) (c : UInt8) : Bool := l.contains c
theorem hasB_true {l : List UInt8} {c : UInt8} (h : c ∈ l) : hasB l c = true := List.contains_iff_mem.2 h
theorem hasB_false {l : List UInt8} {c : UInt8} (h : c ∉ l) : hasB l c = false := by
 cases e : hasB l c with
 | false => rfl
 | true => exact absurd (List.contains_iff_mem.1 e) h
theorem xE {α : Sort _} (a : α) : ∃ y, a = y := ⟨_, rfl⟩
theorem xS {α : Sort _} (a : α) : ∃ y, y = a := ⟨_, rfl⟩
theorem aQ {α : Type _} {l : List α} {i : Nat} {a : α} : l.toArray.setIfInBounds i a = (l.set i a).toArray := by simp
theorem aZ {α : Type _} {x y : α} {l : List α} : (x :: l).set 0 y = y :: l := rfl
theorem aC {α : Type _} {x y : α} {l : List α} {n : Nat} : (x :: l).set (n + 1) y = x :: l.set n y := rfl
end Go.Proofs.YtkcnmjdomipbjaaGreat
