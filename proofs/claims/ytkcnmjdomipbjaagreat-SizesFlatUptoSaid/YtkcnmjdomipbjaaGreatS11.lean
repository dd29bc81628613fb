import Derived.Lib.SmallJoins
import Derived.Test.YtkcnmjdomipbjaaGreatS5
import Derived.Test.YtkcnmjdomipbjaaGreatS7
set_option linter.unusedVariables false
set_option maxHeartbeats 100000000
set_option maxRecDepth 100000
namespace Go.Proofs.YtkcnmjdomipbjaaGreat
open Go.RowKit
theorem byte_all {p : UInt8 -> Int -> Prop} (h : ∀ k : Fin 256, p (UInt8.ofNat k.val) (k.val : Int)) (n : Int) (h0 : 0 <= n) (h1 : n <= 255) : p (bOf n) n := by
 have := h ⟨n.toNat, by omega⟩
 have e : ((n.toNat : Nat) : Int) = n := by omega
 simp only [e] at this
 exact this
theorem dval_lt (c : UInt8) (h : isH c = true) : dval c < 16 := by
 have := byte_all (p := fun c _ => isH c = true -> dval c < 16) (by decide +kernel) (c.toNat : Int) (by omega) (by have := c.toNat_lt; omega)
 rw [bOf_cast] at this
 exact this h
theorem valN_lt (base : Nat) (hb : base <= 16) : ∀ (n : Nat) (l : List UInt8), l.length = n -> (∀ c ∈ l, dval c < 16) -> valN base l < 16 ^ n * 2
 | 0, l, e, _ => by
  obtain rfl := List.eq_nil_of_length_eq_zero e;simp [valN]
 | n + 1, l, e, h => by
  have hne : l ≠ [] := by intro h; rw [h] at e; simp at e
  obtain ⟨l', c, rfl⟩ : ∃ l' c, l = l' ++ [c] := ⟨l.dropLast, l.getLast hne, (List.dropLast_concat_getLast hne).symm⟩
  have h1 := valN_lt base hb n l' (by simpa using e) (fun d hd => h d (by simp [hd]));have h2 := h c (by simp);rw [valN_snoc, Nat.pow_succ];have h3 : valN base l' * base <= valN base l' * 16 := Nat.mul_le_mul_left _ hb;omega
def partL (l : List UInt8) : List UInt8 × Bool × Bool :=
 match l with
 | 35 :: c :: t => if isX c then (t, true, true) else (c :: t, false, true)
 | [35] => ([], false, true)
 | l => (l, false, false)
def numericL (l : List UInt8) (hex : Bool) : Bool := l.all (digP hex) && decide (l.length <= 7)
theorem all_snoc (p : UInt8 -> Bool) (l : List UInt8) (c : UInt8) : (l ++ [c]).all p = (l.all p && p c) := by simp
section
open Go.RowKit Go.Lib
theorem chrOf_ok (n : Nat) (h : encOk (n : Int) = true) (h0 : n ≠ 0) : chrOf n = encL (n : Int) /\ encE (n : Int) = 0 := by
 unfold chrOf encL encE; rw [if_pos ⟨h, h0⟩, h]; exact ⟨rfl, rfl⟩
theorem chrOf_bad (n : Nat) (h : encOk (n : Int) = false) : chrOf n = [239, 191, 189] /\ encE (n : Int) = 4 := by
 unfold chrOf encE; rw [h]; exact ⟨rfl, rfl⟩
theorem mtch_len (m x : List UInt8) (h : Mtch m x) : 4 <= m.length /\ x.length <= 4 := by
 refine ⟨?_, (mtch_shape m x h).elim fun u h => h.2.2.2.2.2⟩
 rcases h with ⟨p, hp, rfl, rfl⟩ | ⟨hex, pre, ds, hx, h1, h2, h3, rfl, rfl⟩
 ·simp only [names, List.mem_cons, List.not_mem_nil, or_false] at hp;rcases hp with rfl | rfl | rfl | rfl | rfl <;> decide
 simp; omega
theorem one_len (s : List UInt8) : (oneR s).1.length <= (oneR s).2 /\ (oneR s).2 <= s.length := by
 rcases one_mtch s with e | ⟨m, x, r, rfl, hm⟩
 ·rw [e]; simp
 rw [mtch_one m x r hm]
 have := mtch_len m x hm
 simp; omega
end
end Go.Proofs.YtkcnmjdomipbjaaGreat
