/- The pages' Escape; refs.Unfinished and the pages' one. -/
import Derived.Test.YtihgmgpcdodknaaDoorRef6e
set_option linter.unusedVariables false
namespace Go.Proofs.YtihgmgpcdodknaaDoor
open Go.RowKit

set_option maxRecDepth 100000 in
set_option maxHeartbeats 1600000 in
theorem refEscape06_any (s : ByteArray) (w : World) (hs : s.size ≤ 8589934592) :
    Calls Tryd.prog 42 #[.string s] w (RStr w (escL s.data.toList)) := by
  have hRL := repairL_len s
  go_enter Tryd.func42, Tryd.ntmps42
  go_wp2_with fail
  refine (refRepair_any s _ (by omega)).mono ?_
  rintro e w1 ⟨t, rfl, ht, hb1⟩
  have Hlt := hid (len_data t)
  have hts : t.size ≤ 4 * s.size := by have := Hlt.out; rw [ht.out] at this; omega
  clear hRL
  go_wp2
  go_loopw [4, 5] (fun b i wr => ∃ k : Nat, k ≤ t.size ∧ i = .int .i64 k ∧ Hid (OwnB wr w1.heap.size b (escA (t.data.toList.take k))) ∧ Below w1.heap.size w1 wr) (fun _ i _ => t.size - (intOf i).toNat)
  case atStart => exact ⟨0, Nat.zero_le _, rfl, hid (OwnB.nil _ _), Below.refl _ _⟩
  case round =>
    obtain ⟨k, hk, rfl, hO, hb⟩ := hrel
    obtain ⟨ad, cap, rfl⟩ := hO.out.shape
    obtain ⟨m, hm⟩ : ∃ m, (escA (t.data.toList.take k)).length = m := ⟨_, rfl⟩
    have hm1 : m ≤ 5 * t.size := by
      rw [← hm]
      have := escA_len (t.data.toList.take k)
      rw [List.length_take, Hlt.out] at this; omega
    have HLn := hid hm
    have hcv := hO.out.back
    rw [hm] at hcv ⊢
    clear hm
    by_cases hlt : k < t.size
    · have hkl : k < t.data.toList.length := by rw [Hlt.out]; exact hlt
      obtain ⟨c, hc⟩ : ∃ c, t.data.toList[k] = c := ⟨_, rfl⟩
      have Hst := hid (escA_take t.data.toList k hkl)
      rw [hc] at Hst
      have hsc : t[k]'hlt = c := by rw [← data_get t k hlt hkl]; exact hc
      obtain ⟨n, hn⟩ : ∃ n : Int, ((t[k]'hlt).toNat : Int) = n := ⟨_, rfl⟩
      have hn0 : 0 ≤ n ∧ n ≤ 255 := by have := (t[k]'hlt).toNat_lt; omega
      have hcases := escB_cases c n (by rw [← hsc]; exact hn)
      have Hbo : Hid (bOf n = c) := hid (by rw [← hn, bOf_cast, hsc])
      clear hc hcv hsc
      have hO2 := hO.out
      rw [HLn.out] at hO2
      rcases hcases with hcase | hcase | hcase | hcase | hcase | hcase | hcase
      · obtain ⟨rfl, he⟩ := hcase
        have He := hid he
        clear he
        go_wp2_with (at_builtin; refine wpl_pushs1 rfl _ _ rfl w1.heap.size _ _ _ hO2 rfl _ rfl (by rw [HLn.out]; simp [ByteArray.size]; omega) hb.size ?_; intro v' w3 hO3 hb3)
        go_roundw
        case rel => exact ⟨k + 1, by omega, by go_num, hid (by rw [Hst.out, He.out]; exact hO3), hb.trans hb3⟩
        case measure => simp [intOf]; omega
      · obtain ⟨rfl, he⟩ := hcase
        have He := hid he
        clear he
        go_wp2_with (at_builtin; refine wpl_pushs1 rfl _ _ rfl w1.heap.size _ _ _ hO2 rfl _ rfl (by rw [HLn.out]; simp [ByteArray.size]; omega) hb.size ?_; intro v' w3 hO3 hb3)
        go_roundw
        case rel => exact ⟨k + 1, by omega, by go_num, hid (by rw [Hst.out, He.out]; exact hO3), hb.trans hb3⟩
        case measure => simp [intOf]; omega
      · obtain ⟨rfl, he⟩ := hcase
        have He := hid he
        clear he
        go_wp2_with (at_builtin; refine wpl_pushs1 rfl _ _ rfl w1.heap.size _ _ _ hO2 rfl _ rfl (by rw [HLn.out]; simp [ByteArray.size]; omega) hb.size ?_; intro v' w3 hO3 hb3)
        go_roundw
        case rel => exact ⟨k + 1, by omega, by go_num, hid (by rw [Hst.out, He.out]; exact hO3), hb.trans hb3⟩
        case measure => simp [intOf]; omega
      · obtain ⟨rfl, he⟩ := hcase
        have He := hid he
        clear he
        go_wp2_with (at_builtin; refine wpl_pushs1 rfl _ _ rfl w1.heap.size _ _ _ hO2 rfl _ rfl (by rw [HLn.out]; simp [ByteArray.size]; omega) hb.size ?_; intro v' w3 hO3 hb3)
        go_roundw
        case rel => exact ⟨k + 1, by omega, by go_num, hid (by rw [Hst.out, He.out]; exact hO3), hb.trans hb3⟩
        case measure => simp [intOf]; omega
      · obtain ⟨rfl, he⟩ := hcase
        have He := hid he
        clear he
        go_wp2_with (at_builtin; refine wpl_pushs1 rfl _ _ rfl w1.heap.size _ _ _ hO2 rfl _ rfl (by rw [HLn.out]; simp [ByteArray.size]; omega) hb.size ?_; intro v' w3 hO3 hb3)
        go_roundw
        case rel => exact ⟨k + 1, by omega, by go_num, hid (by rw [Hst.out, He.out]; exact hO3), hb.trans hb3⟩
        case measure => simp [intOf]; omega
      · obtain ⟨rfl, he⟩ := hcase
        have He := hid he
        clear he
        go_wp2_with (at_builtin; refine wpl_pushs1 rfl _ _ rfl w1.heap.size _ _ _ hO2 rfl _ rfl (by rw [HLn.out]; simp [ByteArray.size]; omega) hb.size ?_; intro v' w3 hO3 hb3)
        go_roundw
        case rel => exact ⟨k + 1, by omega, by go_num, hid (by rw [Hst.out, He.out]; exact hO3), hb.trans hb3⟩
        case measure => simp [intOf]; omega
      · obtain ⟨g1, g2, g3, g4, g5, g6, he⟩ := hcase
        have He := hid he
        clear he
        go_wp2_with (at_builtin; refine wpl_push1 rfl _ _ rfl w1.heap.size _ _ _ _ hO2 rfl rfl hn0.1 hn0.2 (by rw [HLn.out]; omega) hb.size ?_; intro v' w3 hO3 hb3)
        go_roundw
        case rel => exact ⟨k + 1, by omega, by go_num, hid (by rw [Hst.out, He.out, ← Hbo.out]; exact hO3), hb.trans hb3⟩
        case measure => simp [intOf]; omega
    · obtain rfl : k = t.size := by omega
      go_wp2
      go_ret
      refine ⟨_, rfl, hid ?_, then_ hb1 hb⟩
      show escA (t.data.toList.take t.size) = _
      rw [take_all, ht.out]; rfl
end Go.Proofs.YtihgmgpcdodknaaDoor
