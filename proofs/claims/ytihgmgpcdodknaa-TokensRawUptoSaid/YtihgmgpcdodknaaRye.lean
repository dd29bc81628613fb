/- The pages' Decode, Escape, Clean. -/
import Derived.Test.YtihgmgpcdodknaaRyd
set_option linter.unusedVariables false
namespace Go.Proofs.Ytihgmgpcdodknaa
open Go.RowKit

set_option maxRecDepth 100000 in
set_option maxHeartbeats 1600000 in
theorem refDecode06_any (s : ByteArray) (w : World) (hs : s.size ≤ 137438953472) :
    Calls Try.prog 24 #[.string s] w (RStr w (decL s.data.toList)) := by
  have Hlen := hid (len_data s)
  go_enter Try.func24, Try.ntmps24
  go_wp2
  go_loopw [3, 4] (fun b i wr => ∃ (k : Nat) (pre : List UInt8), k ≤ s.size ∧ i = .int .i64 k ∧ pre.length ≤ k ∧ Hid (OwnB wr w.heap.size b pre) ∧ Hid (decL s.data.toList = pre ++ decL (s.data.toList.drop k)) ∧ Below w.heap.size w wr) (fun _ i _ => s.size - (intOf i).toNat)
  case atStart => exact ⟨0, [], Nat.zero_le _, rfl, Nat.le_refl _, hid (OwnB.nil _ _), hid rfl, Below.refl _ _⟩
  case round =>
    obtain ⟨k, pre, hk, rfl, hpk, hO, hd, hb⟩ := hrel
    obtain ⟨ad, cap, rfl⟩ := hO.out.shape
    by_cases hlt : k < s.size
    · have hde : Hid ((s.extract k s.size).data.toList = s.data.toList.drop k) := hid (drop_extract s k (by omega))
      have hkl : k < s.data.toList.length := by rw [Hlen.out]; exact hlt
      obtain ⟨c, hc⟩ : ∃ c, s.data.toList[k] = c := ⟨_, rfl⟩
      have Hcs : Hid (s.data.toList.drop k = c :: s.data.toList.drop (k + 1)) := hid (by rw [List.drop_eq_getElem_cons hkl, hc])
      have hsc : s[k]'hlt = c := by rw [← data_get s k hlt hkl]; exact hc
      have Hone := hid (one_len (s.data.toList.drop k))
      have Hst := hid (decL_cons c (s.data.toList.drop (k + 1)))
      clear hc
      go_wp2_with fail
      refine (refOne_any _ _ (by rw [ByteArray.size_extract]; omega)).mono ?_
      rintro e w2 ⟨x, n', rfl, hx, hn, hb2⟩
      have hxd := hx.out
      have hnd := hn.out
      rw [hde.out] at hxd hnd
      obtain ⟨n, rfl⟩ : ∃ n : Nat, n' = (n : Int) := ⟨_, hnd⟩
      have hn2 : (oneR (s.data.toList.drop k)).2 = n := by omega
      have hxl : x.size ≤ n ∧ k + n ≤ s.size := by
        have h1 := Hone.out
        rw [hn2, ← hxd, len_data, List.length_drop, Hlen.out] at h1
        omega
      have Hn := hid hn2
      have Hx := hid hxd
      have hO2 := hO.out.keep hb2
      have hbb := after hb hb2 hb.size
      clear hn hn2 hx hxd hnd
      by_cases hn0 : n = 0
      · subst hn0
        have hcb : (c.toNat : Int) ≤ 255 := by have := c.toNat_lt; omega
        go_wp2_with (at_builtin; refine wpl_push1 rfl _ _ rfl w.heap.size _ pre _ _ hO2 rfl rfl (by omega) hcb (by omega) hbb.size ?_; intro v' w3 hO3 hb3)
        go_roundw
        case rel =>
          refine ⟨k + 1, _, by omega, by go_num, by simp; omega, hid hO3, hid ?_, hbb.trans hb3⟩
          rw [hd.out, List.append_assoc, bOf_cast, Hcs.out, Hst.out, ← Hcs.out, Hn.out, if_neg (by omega)]; rfl
        case measure => simp [intOf]; omega
      · have hn1 : (n : Int) ≠ 0 := by omega
        go_wp2_with (at_builtin; refine wpl_pushs1 rfl _ _ rfl w.heap.size _ pre _ hO2 rfl x rfl (by omega) hbb.size ?_; intro v' w3 hO3 hb3)
        go_roundw
        case rel =>
          refine ⟨k + n, _, by omega, by go_num, by rw [List.length_append, len_data]; omega, hid hO3, hid ?_, hbb.trans hb3⟩
          rw [hd.out, List.append_assoc, Hx.out, Hcs.out, Hst.out, ← Hcs.out, Hn.out, if_pos (by omega), List.drop_drop]
        case measure => simp [intOf]; omega
    · obtain rfl : k = s.size := by omega
      have hcv := hO.out.back
      go_wp2
      go_ret
      refine ⟨_, rfl, hid ?_, hb⟩
      have := hd.out
      rw [List.drop_of_length_le (by rw [Hlen.out]; exact Nat.le_refl _), decL_nil, List.append_nil] at this
      exact this.symm
end Go.Proofs.Ytihgmgpcdodknaa
