/- refs.Escape, for tokens written. -/
import Derived.Test.YtihgmgpcdodknaaDoorRep
import Derived.Test.YtihgmgpcdodknaaDoorRepU
set_option linter.unusedVariables false
namespace Go.Proofs.YtihgmgpcdodknaaDoor
open Go.RowKit

set_option maxRecDepth 100000 in
set_option maxHeartbeats 1600000 in
theorem escape06_any (s : ByteArray) (w : World) (hs : s.size ≤ 8589934592) (hT : TabsAt w) :
    Calls Tryd.prog 34 #[.string s] w (RStr w (escL s.data.toList)) := by
  have kc := fun (w : World) (s : ByteArray) => run_bytes_of_string (P := Tryd.prog) w 9 49 5 s Tryd.underlying9 Tryd.underlying49 Tryd.underlying5
  have HT := hid hT
  have hRL := repairL_len s
  clear hT
  go_enter Tryd.func34, Tryd.ntmps34
  go_wp2_with fail
  refine (repair_any s _ (by omega) (HT.out.keep ((Below.refl _ w).alloc (Nat.le_refl _) _))).mono ?_
  rintro e w1 ⟨t, rfl, ht, hb1⟩
  have Hlt := hid (len_data t)
  have hts : t.size ≤ 4 * s.size := by have := Hlt.out; rw [ht.out] at this; omega
  have hw1 : w.heap.size + 1 ≤ w1.heap.size := by have := hb1.size; simpa using this
  have hbk : w1.heap[w.heap.size]? = some (.cells #[.pointer none, .slice none 0 0] 57 (0, 0)) := by
    rw [hb1.block w.heap.size (by simp)]; exact heap_alloc_new w _
  have hbw : Below w.heap.size w w1 := ((Below.refl _ w).alloc (Nat.le_refl _) _).trans (hb1.mono (by simp))
  clear hRL
  have Hbk := hid hbk
  clear hbk
  go_wp2
  go_loopw [10] (fun i wr => ∃ k : Nat, k ≤ t.size ∧ i = .int .i64 k ∧ Hid (Bld w.heap.size (w1.heap.size + 1) (escA (t.data.toList.take k)) wr) ∧ Hid (BytesIn wr w1.heap.size t.data.toList) ∧ Below w.heap.size w wr) (fun i _ => t.size - (intOf i).toNat)
  case atStart =>
    refine ⟨0, Nat.zero_le _, rfl, hid (Bld.fresh ?_ (by omega) (by simp)), hid ((BytesIn.new w1 t _ _ _).drew), ?_⟩
    · exact (Below.heap_alloc w1.drew _ _ (by show w.heap.size < w1.heap.size; omega)).trans Hbk.out
    · exact hbw.drew.alloc (by show w.heap.size ≤ w1.heap.size; omega) _
  case round =>
    obtain ⟨k, hk, rfl, HB, HC, hb⟩ := hrel
    by_cases hlt : k < t.size
    · have hkl : k < t.data.toList.length := by rw [Hlt.out]; exact hlt
      have hc0 := HC.out k hkl
      obtain ⟨c, hc⟩ : ∃ c, t.data.toList[k] = c := ⟨_, rfl⟩
      rw [hc] at hc0
      have Hst := hid (escA_take t.data.toList k hkl)
      rw [hc] at Hst
      obtain ⟨n, hn⟩ : ∃ n : Int, (c.toNat : Int) = n := ⟨_, rfl⟩
      have hn0 : 0 ≤ n ∧ n ≤ 255 := by have := c.toNat_lt; omega
      have Hn := hid hn
      rw [hn] at hc0
      have hcases := escB_cases c n hn
      obtain ⟨m, hm⟩ : ∃ m, (escA (t.data.toList.take k)).length = m := ⟨_, rfl⟩
      have hm1 : m ≤ 5 * t.size := by
        rw [← hm]
        have := escA_len (t.data.toList.take k)
        rw [List.length_take, Hlt.out] at this; omega
      have HLn := hid hm
      clear hm hn hc
      rcases hcases with hcase | hcase | hcase | hcase | hcase | hcase | hcase
      · obtain ⟨rfl, he⟩ := hcase
        have He := hid he
        clear he
        go_wp2_with (first | (go_at_call 65; refine (writeString_any _ _ _ _ _ HB.out (by rw [HLn.out]; simp [ByteArray.size]; omega)).mono ?_; rintro e w3 ⟨rfl, hB3, hX3⟩))
        go_roundw
        case rel => exact ⟨k + 1, by omega, by go_num, hid (by rw [Hst.out, He.out]; exact hB3), hid (HC.out.keepX hX3 (by omega) (by omega)), hb.trans (hX3.below (by omega))⟩
        case measure => simp [intOf]; omega
      · obtain ⟨rfl, he⟩ := hcase
        have He := hid he
        clear he
        go_wp2_with (first | (go_at_call 65; refine (writeString_any _ _ _ _ _ HB.out (by rw [HLn.out]; simp [ByteArray.size]; omega)).mono ?_; rintro e w3 ⟨rfl, hB3, hX3⟩))
        go_roundw
        case rel => exact ⟨k + 1, by omega, by go_num, hid (by rw [Hst.out, He.out]; exact hB3), hid (HC.out.keepX hX3 (by omega) (by omega)), hb.trans (hX3.below (by omega))⟩
        case measure => simp [intOf]; omega
      · obtain ⟨rfl, he⟩ := hcase
        have He := hid he
        clear he
        go_wp2_with (first | (go_at_call 65; refine (writeString_any _ _ _ _ _ HB.out (by rw [HLn.out]; simp [ByteArray.size]; omega)).mono ?_; rintro e w3 ⟨rfl, hB3, hX3⟩))
        go_roundw
        case rel => exact ⟨k + 1, by omega, by go_num, hid (by rw [Hst.out, He.out]; exact hB3), hid (HC.out.keepX hX3 (by omega) (by omega)), hb.trans (hX3.below (by omega))⟩
        case measure => simp [intOf]; omega
      · obtain ⟨rfl, he⟩ := hcase
        have He := hid he
        clear he
        go_wp2_with (first | (go_at_call 65; refine (writeString_any _ _ _ _ _ HB.out (by rw [HLn.out]; simp [ByteArray.size]; omega)).mono ?_; rintro e w3 ⟨rfl, hB3, hX3⟩))
        go_roundw
        case rel => exact ⟨k + 1, by omega, by go_num, hid (by rw [Hst.out, He.out]; exact hB3), hid (HC.out.keepX hX3 (by omega) (by omega)), hb.trans (hX3.below (by omega))⟩
        case measure => simp [intOf]; omega
      · obtain ⟨rfl, he⟩ := hcase
        have He := hid he
        clear he
        go_wp2_with (first | (go_at_call 65; refine (writeString_any _ _ _ _ _ HB.out (by rw [HLn.out]; simp [ByteArray.size]; omega)).mono ?_; rintro e w3 ⟨rfl, hB3, hX3⟩))
        go_roundw
        case rel => exact ⟨k + 1, by omega, by go_num, hid (by rw [Hst.out, He.out]; exact hB3), hid (HC.out.keepX hX3 (by omega) (by omega)), hb.trans (hX3.below (by omega))⟩
        case measure => simp [intOf]; omega
      · obtain ⟨rfl, he⟩ := hcase
        have He := hid he
        clear he
        go_wp2_with (first | (go_at_call 65; refine (writeString_any _ _ _ _ _ HB.out (by rw [HLn.out]; simp [ByteArray.size]; omega)).mono ?_; rintro e w3 ⟨rfl, hB3, hX3⟩))
        go_roundw
        case rel => exact ⟨k + 1, by omega, by go_num, hid (by rw [Hst.out, He.out]; exact hB3), hid (HC.out.keepX hX3 (by omega) (by omega)), hb.trans (hX3.below (by omega))⟩
        case measure => simp [intOf]; omega
      · obtain ⟨g1, g2, g3, g4, g5, g6, he⟩ := hcase
        have He := hid he
        have Hbo : Hid (bOf n = c) := hid (by rw [← Hn.out, bOf_cast])
        clear he
        go_wp2_with (first | (go_at_call 66; refine (writeByte_any _ _ _ _ _ HB.out hn0.1 hn0.2 (by rw [HLn.out]; omega)).mono ?_; rintro e w3 ⟨rfl, hB3, hX3⟩))
        go_roundw
        case rel => exact ⟨k + 1, by omega, by go_num, hid (by rw [Hst.out, He.out, ← Hbo.out]; exact hB3), hid (HC.out.keepX hX3 (by omega) (by omega)), hb.trans (hX3.below (by omega))⟩
        case measure => simp [intOf]; omega
    · obtain rfl : k = t.size := by omega
      go_wp2_with fail
      refine (bstrK_any _ _ _ _ HB.out).mono ?_
      rintro e w3 ⟨rfl, hb3, _⟩
      go_wp2
      go_ret
      refine ⟨_, rfl, hid ?_, hb.trans (hb3.mono (by omega))⟩
      rw [take_all]
      unfold escL
      rw [ht.out]
end Go.Proofs.YtihgmgpcdodknaaDoor
