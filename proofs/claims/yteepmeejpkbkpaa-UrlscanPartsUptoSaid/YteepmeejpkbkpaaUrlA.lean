/- urlscan: alive; the laws' walks. -/
import Derived.Test.YteepmeejpkbkpaaUrl
set_option linter.unusedVariables false
namespace Go.Proofs.Yteepmeejpkbkpaa
open Go.RowKit

theorem nil_of_data {t : ByteArray} (h : t.data.toList = []) : t.toList = [] := by rw [ByteArray.toList_eq]; exact h

set_option maxHeartbeats 400000 in
theorem alive_any (w : World) : Calls Try.prog 6 #[] w fun e w' => e = .returned (.bool true) ∧ Below w.heap.size w w' := by
  go_enter Try.func6, Try.ntmps6
  go_wp2_with (go_at_call 7; refine (feed_any _ _ _ _ (by show 4 ≤ _; omega)).mono ?_; rintro e w1 ⟨r, t, rfl, hr, ht, hb⟩; obtain rfl : r = 3 := hr.out.trans (by decide); have ht0 : t.toList = [] := nil_of_data (ht.out.trans (by decide)))
  go_ret
  exact ⟨rfl, hb⟩

set_option maxHeartbeats 400000 in
theorem query_any (a s : ByteArray) (w : World) (ha : a.size ≤ 1048576) (hs : s.size ≤ 1048576) :
    Calls Try.prog 5 #[.string a, .string s] w fun e w' => e = .returned (.bool true) ∧ Below w.heap.size w w' := by
  go_enter Try.func5, Try.ntmps5
  go_wp2_with (first | (go_at_call 6; refine (alive_any _).mono ?_; rintro e w1 ⟨rfl, hb1⟩))
  refine (feed_any _ _ _ _ ?_).mono ?_
  · have e1 : (ByteArray.mk #[47]).size = 1 := rfl
    have e2 : (ByteArray.mk #[63]).size = 1 := rfl
    simp only [ByteArray.size_append]; omega
  rintro e w2 ⟨r, t, rfl, hr, ht, hb2⟩
  obtain rfl : r = 3 := by
    rw [hr.out]
    simp only [data_append]
    exact uFeed_query a.data.toList s.data.toList
  go_wp2
  go_ret
  exact ⟨rfl, then_ hb1 hb2⟩

set_option maxHeartbeats 400000 in
theorem parts_any (a b : ByteArray) (w : World) (ha : a.size ≤ 1048576) (hs : b.size ≤ 1048576) :
    Calls Try.prog 4 #[.string a, .string b] w fun e w' => e = .returned (.bool true) ∧ Below w.heap.size w w' := by
  go_enter Try.func4, Try.ntmps4
  go_wp2_with (first | (go_at_call 6; refine (alive_any _).mono ?_; rintro e w1 ⟨rfl, hb1⟩))
  refine (feed_any _ _ _ _ (by omega)).mono ?_
  rintro e w2 ⟨r, t, rfl, hr, ht, hb2⟩
  go_wp2_with fail
  refine (feed_any _ _ _ _ (by omega)).mono ?_
  rintro e w3 ⟨r3, t3, rfl, hr3, ht3, hb3⟩
  go_wp2_with fail
  refine (feed_any _ _ _ _ (by rw [ByteArray.size_append]; omega)).mono ?_
  rintro e w4 ⟨r4, t4, rfl, hr4, ht4, hb4⟩
  have e1 : r3 = r4 := by
    rw [hr3.out, hr4.out, data_append, uFeed_append, hr.out, ht.out]
  have e2 : t3.toList = t4.toList := by
    rw [ByteArray.toList_eq, ByteArray.toList_eq, ht3.out, ht4.out, data_append, uFeed_append, hr.out, ht.out]
  subst e1
  go_wp2
  go_ret
  exact ⟨by simp, then_ (then_ (then_ hb1 hb2) hb3) hb4⟩
end Go.Proofs.Yteepmeejpkbkpaa
