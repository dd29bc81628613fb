import Derived.Test.YtkcnmjdomipbjaaGreatS5
import Derived.Test.YtkcnmjdomipbjaaGreatS7
set_option linter.unusedVariables false
set_option maxHeartbeats 100000000
set_option maxRecDepth 100000
namespace Go.Proofs.YtkcnmjdomipbjaaGreat
open Go.RowKit
theorem low_take (l : List UInt8) (k : Nat) (h : k < l.length) : low (l.take (k + 1)) = low (l.take k) ++ [lowB l[k]] := by
 rw [List.take_succ_eq_append_getElem h, low_append]; rfl
theorem refLower_any (s : ByteArray) (w : World) (hs : s.size <= 1099511627775) :
  Calls Tryz.prog 86 #[.string s] w (RStr w (low s.data.toList)) := by
 have hlen := hid (len_data s)
 go_enter Tryz.func86, Tryz.ntmps86
 go_wp2
 go_loopw [3, 4] (fun b i wr => ∃ k : Nat, k <= s.size /\ i = .int .i64 k /\ Hid (OwnB wr w.heap.size b (low (s.data.toList.take k))) /\ Below w.heap.size w wr) (fun _ i _ => s.size - (intOf i).toNat)
 case atStart => exact ⟨0, Nat.zero_le _, rfl, hid (OwnB.nil _ _), Below.refl _ _⟩
 obtain ⟨k, hk, rfl, hO, hb⟩ := hrel
 by_cases hlt : k < s.size
 ·have hkl : k < s.data.toList.length := by rw [hlen.out]; exact hlt
  have hst := hid (low_take s.data.toList k hkl);obtain ⟨c, hc⟩ := xE s[k];rw [data_get s k hlt, hc] at hst;have hcb : (c.toNat : Int) <= 255 := by have := c.toNat_lt; omega
  have hl := hid (lowB_int c.toNat (by omega) hcb);rw [bOf_cast] at hl;have hz := hb.size;have hln : (low (s.data.toList.take k)).length <= k := by rw [low_length, List.length_take]; omega
  go_wp2_with (at_builtin; refine wpl_push1 rfl _ _ rfl w.heap.size _ _ _ wr hO.out rfl rfl (by omega) (by omega) (by omega) (by omega) ?_; intro v1 w1 hO1 hb1; have HO1 := hid hO1; clear hO1)
  all_goals
   go_roundw
   case rel =>
    refine ⟨k + 1, by omega, by go_num, hid ?_, hb.trans hb1⟩;rw [hst.out];refine (congrArg (fun x => OwnB w1 w.heap.size v1 (low (s.data.toList.take k) ++ [x])) ?_).mp HO1.out;rw [<- bOf_cast (lowB c), hl.out]; congr 1; split <;> omega
   simp [intOf]; omega
 obtain rfl : k = s.size := by omega
 have hcv := hO.out.back
 go_wp2
 go_ret
 exact ⟨_, rfl, hid (by simp; rw [List.take_of_length_le (by rw [hlen.out]; exact Nat.le_refl _)]), hb⟩
end Go.Proofs.YtkcnmjdomipbjaaGreat
