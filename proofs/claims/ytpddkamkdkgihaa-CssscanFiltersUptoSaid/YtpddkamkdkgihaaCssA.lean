/- cssscan: alive, CssscanParts, CssscanUrls: the walks. -/
import Derived.Test.YtpddkamkdkgihaaCss
set_option linter.unusedVariables false
namespace Go.Proofs.Ytpddkamkdkgihaa
open Go.RowKit

set_option maxHeartbeats 400000 in
theorem cssAlive_any (w : World) : Calls Try.prog 14 #[] w fun e w' => e = .returned (.bool true) ∧ Below w.heap.size w w' := by
  go_enter Try.func14, Try.ntmps14
  go_wp2_with (go_at_call 12; refine (cssFeed_any _ _ _ _ (by show 4 ≤ _; omega)).mono ?_; rintro e w1 ⟨r, t, rfl, hr, ht, hb⟩; obtain rfl : r = 1 := hr.out.trans (by decide))
  go_ret
  exact ⟨rfl, hb⟩

set_option maxHeartbeats 400000 in
theorem cssParts_any (a b : ByteArray) (w : World) (ha : a.size ≤ 1048576) (hs : b.size ≤ 1048576) :
    Calls Try.prog 4 #[.string a, .string b] w fun e w' => e = .returned (.bool true) ∧ Below w.heap.size w w' := by
  go_enter Try.func4, Try.ntmps4
  go_wp2_with (first | (go_at_call 14; refine (cssAlive_any _).mono ?_; rintro e w1 ⟨rfl, hb1⟩))
  refine (cssFeed_any _ _ _ _ (by omega)).mono ?_
  rintro e w2 ⟨r, t, rfl, hr, ht, hb2⟩
  go_wp2_with fail
  refine (cssFeed_any _ _ _ _ (by omega)).mono ?_
  rintro e w3 ⟨r3, t3, rfl, hr3, ht3, hb3⟩
  go_wp2_with fail
  refine (cssFeed_any _ _ _ _ (by rw [ByteArray.size_append]; omega)).mono ?_
  rintro e w4 ⟨r4, t4, rfl, hr4, ht4, hb4⟩
  have e1 : r3 = r4 := by
    rw [hr3.out, hr4.out, data_append, cFeed_append, hr.out, ht.out]
  have e2 : t3.toList = t4.toList := by
    rw [ByteArray.toList_eq, ByteArray.toList_eq, ht3.out, ht4.out, data_append, cFeed_append, hr.out, ht.out]
  subst e1
  have e9 : r = 9 → r3 = 9 := fun e => by rw [hr3.out, e, cFeed_nine]
  have E9 := hid e9
  clear e9
  by_cases h9 : r = 9
  · have h3 := E9.out h9
    subst h9 h3
    go_wp2
    go_ret
    exact ⟨by simp, then_ (then_ (then_ hb1 hb2) hb3) hb4⟩
  · have h9' : (r == 9) = false := beq_eq_false_iff_ne.2 h9
    have h9'' : (r != 9) = true := by simp [h9]
    clear h9
    go_wp2
    go_ret
    exact ⟨by simp, then_ (then_ (then_ hb1 hb2) hb3) hb4⟩

set_option maxHeartbeats 800000 in
theorem cssUrls_any (s : ByteArray) (w : World) (hs : s.size ≤ 1048576) :
    Calls Try.prog 5 #[.string s] w fun e w' => e = .returned (.bool true) ∧ Below w.heap.size w w' := by
  have hlen := hid (len_data s)
  go_enter Try.func5, Try.ntmps5
  go_wp2_with (first | (go_at_call 14; refine (cssAlive_any _).mono ?_; rintro e w1 ⟨rfl, hb1⟩))
  go_loop [3] (fun i => ∃ k : Nat, k ≤ s.size ∧ i = .int .i64 k ∧ Hid ((41 : UInt8) ∉ s.data.toList.take k)) (fun i => s.size - (intOf i).toNat)
  case atStart => exact ⟨0, Nat.zero_le _, rfl, hid (by simp)⟩
  case round =>
    obtain ⟨k, hk, rfl, hS⟩ := hrel
    by_cases hlt : k < s.size
    · have hkl : k < s.data.toList.length := by rw [hlen.out]; exact hlt
      obtain ⟨c, hc⟩ : ∃ c, s[k] = c := ⟨_, rfl⟩
      have hst := hid (take_one s.data.toList k hkl)
      rw [data_get s k hlt, hc] at hst
      go_wp2
      · go_ret
        exact ⟨rfl, hb1⟩
      · go_round
        case rel =>
          refine ⟨k + 1, by omega, by go_num, hid ?_⟩
          rw [hst.out, List.mem_append]
          rintro (h | h)
          · exact hS.out h
          · exact u8_not ‹((c.toNat : Int) == 41) = false› (by omega) (by omega) (by simp at h; rw [← h]; rfl)
        case measure => simp [intOf]; omega
    · obtain rfl : k = s.size := by omega
      rw [take_all] at hS
      have hU := hid (cFeed_url s.data.toList hS.out)
      go_wp2_with fail
      have e7 : (ByteArray.mk #[97, 58, 32, 117, 82, 108, 40]).size = 7 := rfl
      have e7' : (ByteArray.mk #[97, 58, 32, 85, 82, 76, 40]).size = 7 := rfl
      have e1 : (ByteArray.mk #[41]).size = 1 := rfl
      refine (cssFeed_any _ _ _ _ (by simp only [ByteArray.size_append]; omega)).mono ?_
      rintro e w2 ⟨r, t, rfl, hr, ht, hb2⟩
      obtain rfl : r = 8 := by
        rw [hr.out]; simp only [data_append]
        exact hU.out.1
      clear e7 e7' e1
      go_wp2_with fail
      have e7' : (ByteArray.mk #[85, 82, 76]).size = 3 := rfl
      have e1 : (ByteArray.mk #[41]).size = 1 := rfl
      refine (cssFeed_any _ _ _ _ (by simp only [ByteArray.size_append, show (ByteArray.mk #[97, 58, 32, 85, 82, 76, 40]).size = 7 from rfl]; omega)).mono ?_
      rintro e w3 ⟨r3, t3, rfl, hr3, ht3, hb3⟩
      obtain rfl : r3 = 0 := by
        rw [hr3.out]; simp only [data_append]
        exact hU.out.2
      clear e7' e1
      go_wp2
      go_ret
      exact ⟨rfl, then_ (then_ hb1 hb2) hb3⟩
end Go.Proofs.Ytpddkamkdkgihaa
