/- Contracts of package octets: small, turned (of small), Lower. -/
import Derived.Test.YtihgmgpcdodknaaDoorRows
import Derived.Test.YtihgmgpcdodknaaDoorKit
set_option linter.unusedVariables false
namespace Go.Proofs.YtihgmgpcdodknaaDoor
open Go.RowKit

theorem lowB_int (n : Int) (h0 : 0 ≤ n) (h1 : n ≤ 255) : ((lowB (bOf n)).toNat : Int) = if 65 ≤ n ∧ n ≤ 90 then n + 32 else n := by
  have hb : (bOf n).toNat = n.toNat := by have := bOf_toNat n h0 h1; omega
  unfold lowB
  simp only [UInt8.le_iff_toNat_le, hb]
  by_cases h : 65 ≤ n ∧ n ≤ 90
  · rw [if_pos h, if_pos (by simp; omega)]
    rw [UInt8.toNat_add, hb]; simp; omega
  · rw [if_neg h, if_neg (by simp; omega), hb]; omega

theorem small_any (n : Int) (h0 : 0 ≤ n) (h1 : n ≤ 255) (w : World) :
    Calls Tryd.prog 108 #[.int .u8 n] w fun e w' => e = .returned (.int .u8 ((lowB (bOf n)).toNat : Int)) ∧ w = w' := by
  have hl := hid (lowB_int n h0 h1)
  go_enter Tryd.func108, Tryd.ntmps108
  go_wp2
  all_goals go_ret
  all_goals (refine ⟨ret_int ?_, rfl⟩; rw [hl.out]; split <;> omega)

theorem map_step (f : UInt8 → UInt8) (l : List UInt8) (k : Nat) (h : k < l.length) : (((l.map f).take k ++ l.drop k).set k (f l[k])) = (l.map f).take (k + 1) ++ l.drop (k + 1) := by
  have e : ((l.map f).take k).length = k := by rw [List.length_take, List.length_map]; omega
  rw [List.set_append_right _ _ (by omega), e, Nat.sub_self, List.drop_eq_getElem_cons h, List.set_cons_zero, List.take_succ_eq_append_getElem (by simpa using h)]
  simp
theorem map_at (f : UInt8 → UInt8) (l : List UInt8) (k : Nat) (h : k < l.length) (h' : k < ((l.map f).take k ++ l.drop k).length) : ((l.map f).take k ++ l.drop k)[k] = l[k] := by
  have e : ((l.map f).take k).length = k := by rw [List.length_take, List.length_map]; omega
  rw [List.getElem_append_right (by omega)]
  simp [e]
theorem map_len (f : UInt8 → UInt8) (l : List UInt8) (k : Nat) : ((l.map f).take k ++ l.drop k).length = l.length := by
  rw [List.length_append, List.length_take, List.length_map, List.length_drop]; omega

set_option maxHeartbeats 400000 in
theorem turned_any (s : ByteArray) (w : World) (hs : s.size ≤ 1099511627776) :
    Calls Tryd.prog 114 #[.string s, .func (.func 108) #[] #[]] w (RStr w (low s.data.toList)) := by
  have kc := fun (w : World) (s : ByteArray) => run_bytes_of_string (P := Tryd.prog) w 9 49 5 s Tryd.underlying9 Tryd.underlying49 Tryd.underlying5
  go_enter Tryd.func114, Tryd.ntmps114
  go_wp2
  go_loopw [12] (fun i wr => ∃ k : Nat, k ≤ s.size ∧ i = .int .i64 k ∧ BytesIn wr w.heap.size ((low s.data.toList).take k ++ s.data.toList.drop k) ∧ FreeTo wr w.heap.size s.size ∧ Below w.heap.size w wr) (fun i _ => s.size - (intOf i).toNat)
  case atStart => exact ⟨0, Nat.zero_le _, rfl, by simpa using (BytesIn.new w s _ _ _).drew, (FreeTo.new w s _ _ _ _ (Nat.le_refl _) rfl).drew, by go_grown⟩
  case round =>
    obtain ⟨k, hk, rfl, hB, hF, hb⟩ := hrel
    have hlen := len_data s
    have HB := hid hB
    have HF := hid hF
    clear hB hF
    by_cases hlt : k < s.size
    · have hkl : k < s.data.toList.length := by omega
      have hc0 : wr.cell? ⟨w.heap.size, k, none⟩ = some (.int .u8 (s.data.toList[k].toNat : Int)) := by
        rw [HB.out k (by rw [low, map_len]; omega)]; unfold low; rw [map_at lowB _ k hkl]
      have hf0 := HF.out k hlt
      obtain ⟨c, hc⟩ : ∃ c, s.data.toList[k] = c := ⟨_, rfl⟩
      rw [hc] at hc0
      have hcb : (c.toNat : Int) ≤ 255 := by have := c.toNat_lt; omega
      have Hc := hid hc
      clear hc
      go_wp2_with (go_at_call 108; refine (small_any _ (by omega) hcb _).mono ?_; rintro e w' ⟨rfl, rfl⟩)
      go_roundw
      case rel =>
        refine ⟨k + 1, by omega, by go_num, ?_, HF.out.set _ _, hb.setCell (Nat.le_refl _) _⟩
        have hst := map_step lowB s.data.toList k hkl
        rw [Hc.out] at hst
        have := HB.out.set (k := k) (by rw [low, map_len]; omega) (lowB c)
        unfold low at this ⊢
        rw [hst] at this
        rw [bOf_cast]
        exact this
      case measure => simp [intOf]; omega
    · obtain rfl : k = s.size := by omega
      have hcv := fun cap => BytesIn.back (P := Tryd.prog) (l := low s.data.toList) (by have := HB.out; rw [List.take_of_length_le (by rw [low_length]; omega), List.drop_of_length_le (by omega), List.append_nil] at this; exact this) cap 49 9 5 Tryd.underlying49 Tryd.underlying5 Tryd.underlying9 s.size (by rw [low_length]; omega)
      go_wp2
      go_ret
      exact ⟨_, rfl, hid (by simp), hb⟩

set_option maxHeartbeats 400000 in
theorem lower_any (s : ByteArray) (w : World) (hs : s.size ≤ 1099511627776) :
    Calls Tryd.prog 102 #[.string s] w (RStr w (low s.data.toList)) := by
  go_enter Tryd.func102, Tryd.ntmps102
  go_wp2_with (go_at_call 114; refine (turned_any _ _ hs).mono ?_; rintro e w1 ⟨t, rfl, ht, hb⟩)
  go_ret
  exact ⟨t, rfl, ht, hb⟩
end Go.Proofs.YtihgmgpcdodknaaDoor
