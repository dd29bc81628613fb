import Derived.Test.YtkcnmjdomipbjaaGreatRows
import Derived.Lib.IndexLaws
import Derived.Test.YtkcnmjdomipbjaaGreatS4
import Derived.Test.YtkcnmjdomipbjaaGreatS5
set_option linter.unusedVariables false
set_option maxHeartbeats 100000000
set_option maxRecDepth 100000
namespace Go.Proofs.YtkcnmjdomipbjaaGreat
open Go.RowKit
theorem bytes_all {p : UInt8 -> Int -> Prop} (h : ∀ k : Fin 256, p (UInt8.ofNat k.val) (k.val : Int)) (n : Int) (h0 : 0 <= n) (h1 : n <= 255) : p (bOf n) n := by
 have := h ⟨n.toNat, by omega⟩
 have e : ((n.toNat : Nat) : Int) = n := by omega
 simp only [e] at this
 exact this
theorem refLetter_int (n : Int) (h0 : 0 <= n) (h1 : n <= 255) : isLetter (bOf n) = ((decide (97 <= n) && decide (n <= 122)) || (decide (65 <= n) && decide (n <= 90))) :=
 bytes_all (p := fun c n => isLetter c = ((decide (97 <= n) && decide (n <= 122)) || (decide (65 <= n) && decide (n <= 90)))) (by decide +kernel) n h0 h1
theorem refDigit_int (n : Int) (h0 : 0 <= n) (h1 : n <= 255) : isDigit (bOf n) = (decide (48 <= n) && decide (n <= 57)) :=
 bytes_all (p := fun c n => isDigit c = (decide (48 <= n) && decide (n <= 57))) (by decide +kernel) n h0 h1
theorem refBlank_int (n : Int) (h0 : 0 <= n) (h1 : n <= 255) : isBlank (bOf n) = (n == 32 || n == 9 || n == 10 || n == 12 || n == 13) :=
 bytes_all (p := fun c n => isBlank c = (n == 32 || n == 9 || n == 10 || n == 12 || n == 13)) (by decide +kernel) n h0 h1
theorem refLetter_any (n : Int) (h0 : 0 <= n) (h1 : n <= 255) (w : World) :
  Calls Tryz.prog 62 #[.int .u8 n] w fun e w' => e = .returned (.bool (isLetter (bOf n))) /\ w = w' := by
 have hl := hid (refLetter_int n h0 h1)
 go_enter Tryz.func62, Tryz.ntmps62
 go_wp2
 all_goals go_ret
 all_goals (refine ⟨ret_bool ?_, rfl⟩; rw [hl.out]; first | (simp [*]; done) | (rw [Bool.eq_iff_iff]; simp [*]; done) | (rw [Bool.eq_iff_iff]; simp [*]; omega) | (rw [Bool.eq_iff_iff]; simp; done) | (rw [Bool.eq_iff_iff]; simp; omega))
theorem refDigit_any (n : Int) (h0 : 0 <= n) (h1 : n <= 255) (w : World) :
  Calls Tryz.prog 63 #[.int .u8 n] w fun e w' => e = .returned (.bool (isDigit (bOf n))) /\ w = w' := by
 have hl := hid (refDigit_int n h0 h1)
 go_enter Tryz.func63, Tryz.ntmps63
 go_wp2
 all_goals go_ret
 all_goals (refine ⟨ret_bool ?_, rfl⟩; rw [hl.out]; first | (simp [*]; done) | (rw [Bool.eq_iff_iff]; simp [*]; done) | (rw [Bool.eq_iff_iff]; simp [*]; omega) | (rw [Bool.eq_iff_iff]; simp; done) | (rw [Bool.eq_iff_iff]; simp; omega))
set_option maxHeartbeats 400000 in
theorem refBlank_any (n : Int) (h0 : 0 <= n) (h1 : n <= 255) (w : World) :
    Calls Tryz.prog 37 #[.int .u8 n] w fun e w' => e = .returned (.bool (isBlank (bOf n))) /\ w = w' := by
  have hl := hid (refBlank_int n h0 h1)
  go_enter Tryz.func37, Tryz.ntmps37
  go_wp2
  all_goals go_ret
  all_goals subst_vars
  all_goals (refine ⟨ret_bool ?_, rfl⟩; first | (rw [hl.out]; done) | (rw [hl.out]; simp [*]; done) | (rw [hl.out, Bool.eq_iff_iff]; simp [*]; done) | (rw [hl.out, Bool.eq_iff_iff]; simp [*]; omega))
theorem refHas_any (s : ByteArray) (n : Int) (h0 : 0 <= n) (h1 : n <= 255) (hs : s.size <= 1099511627776) (w : World) :
  Calls Tryz.prog 112 #[.string s, .int .u8 n] w fun e w' => e = .returned (.bool (hasB s.data.toList (bOf n))) /\ w = w' := by
 have hlen := hid (len_data s)
 go_enter Tryz.func112, Tryz.ntmps112
 go_wp2
 go_loop [5] (fun i => ∃ k : Nat, k <= s.size /\ i = .int .i64 k /\ Hid (bOf n ∉ s.data.toList.take k)) (fun i => s.size - (intOf i).toNat)
 case atStart => exact ⟨0, Nat.zero_le _, rfl, hid (by simp)⟩
 obtain ⟨k, hk, rfl, hS⟩ := hrel
 by_cases hlt : k < s.size
 ·have hkl : k < s.data.toList.length := by rw [hlen.out]; exact hlt
  obtain ⟨c, hc⟩ := xE s[k];have hst := hid (take_one s.data.toList k hkl);rw [data_get s k hlt, hc] at hst;have hm : Hid (c ∈ s.data.toList) := hid (by rw [<- hc]; exact List.getElem_mem hkl);go_wp2
  ·go_ret;refine ⟨ret_bool ?_, rfl⟩;have e := u8_is ‹((c.toNat : Int) == n) = true›;rw [<- e, hasB_true hm.out]
  go_round
  case rel =>
   refine ⟨k + 1, by omega, by go_num, hid ?_⟩;rw [hst.out, List.mem_append];rintro (h | h)
   ·exact hS.out h
   exact u8_not ‹((c.toNat : Int) == n) = false› h0 h1 (by simp at h; exact h.symm)
  simp [intOf]; omega
 obtain rfl : k = s.size := by omega
 rw [take_all] at hS
 go_wp2
 go_ret
 refine ⟨ret_bool ?_, rfl⟩
 rw [hasB_false hS.out]
theorem occ_of_eq (s p : ByteArray) (k : Nat) (hk : k + p.size <= s.size) : ((s.extract k (k + p.size)).toList = p.toList) ↔ Lib.occAt s.data.toList p.data.toList k = true := by
 rw [ByteArray.toList_eq, ByteArray.toList_eq, data_extract, Lib.occAt, List.isPrefixOf_iff_prefix, List.prefix_iff_eq_take, len_data, List.drop_take, Nat.add_sub_cancel_left]
 constructor <;> intro h <;> exact h.symm
theorem refFind_any (s p : ByteArray) (hs : s.size <= 1099511627776) (hp : p.size <= 1099511627776) (w : World) :
  Calls Tryz.prog 33 #[.string s, .string p] w fun e w' => e = .returned (.int .i64 (Lib.index s.data.toList p.data.toList)) /\ w = w' := by
 have hlen := hid (len_data s)
 have hlenp := hid (len_data p)
 go_enter Tryz.func33, Tryz.ntmps33
 go_wp2
 go_loop [5] (fun i => ∃ k : Nat, k <= s.size + 1 /\ i = .int .i64 k /\ Hid (Lib.NoOcc s.data.toList p.data.toList k)) (fun i => s.size + 1 - (intOf i).toNat)
 case atStart => exact ⟨0, Nat.zero_le _, rfl, hid (Lib.NoOcc.zero _ _)⟩
 obtain ⟨k, hk, rfl, hS⟩ := hrel
 by_cases hlt : k + p.size <= s.size
 ·have ho := hid (occ_of_eq s p k hlt);by_cases hoc : (s.extract k (k + p.size)).toList = p.toList
  ·have hocb : ((s.extract k (k + p.size)).toList == p.toList) = true := by rw [hoc]; simp
   have Hoc := hid (ho.out.1 hoc);clear hoc;go_wp2
   go_ret;refine ⟨ret_int ?_, rfl⟩;rw [Lib.index_hit hS.out (by rw [hlen.out]; omega) Hoc.out]
  have hocb : ((s.extract k (k + p.size)).toList == p.toList) = false := by simpa using hoc
  have Hoc : Hid (Lib.occAt s.data.toList p.data.toList k = false) := hid (by
   cases h : Lib.occAt s.data.toList p.data.toList k with
   | false => rfl
   | true => exact absurd (ho.out.2 h) hoc)
  clear hoc;go_wp2
  go_round
  case rel => exact ⟨k + 1, by omega, by go_num, hid (hS.out.succ Hoc.out)⟩
  simp [intOf]; omega
 go_wp2
 go_ret
 refine ⟨ret_int ?_, rfl⟩
 by_cases hp0 : p.data.toList = []
 ·exfalso;have h0 : p.size = 0 := by rw [<- hlenp.out, hp0]; rfl
  have := hS.out 0 (by omega);rw [hp0] at this;simp [Lib.occAt] at this
 rw [Lib.index_past hp0 hS.out (by rw [hlen.out, hlenp.out]; omega)]
end Go.Proofs.YtkcnmjdomipbjaaGreat
