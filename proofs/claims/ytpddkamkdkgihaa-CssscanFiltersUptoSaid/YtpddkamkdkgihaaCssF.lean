/- CssscanFilters: the walk. -/
import Derived.Test.YtpddkamkdkgihaaCssA
import Derived.Test.YtpddkamkdkgihaaStyle
set_option linter.unusedVariables false
namespace Go.Proofs.Ytpddkamkdkgihaa
open Go.RowKit

set_option maxHeartbeats 800000 in
theorem cssFilters_any (s wd : ByteArray) (w : World) (hs : s.size ≤ 1048576) (hw : wd.size ≤ 1048576) :
    Calls Try.prog 3 #[.string s, .string wd] w fun e w' => e = .returned (.bool true) ∧ Below w.heap.size w w' := by
  have hsz : ∀ t : ByteArray, t.data.toList = styleL s.data.toList → t.size ≤ 1048584 := fun t h => by
    rw [← len_data, h]; unfold styleL; split
    · rw [len_data]; omega
    · show 8 ≤ _; omega
  have Hsz := hid hsz
  clear hsz
  go_enter Try.func3, Try.ntmps3
  go_wp2_with fail
  refine (refStyle_any _ _ (by omega)).mono ?_
  rintro e w1 ⟨t1, rfl, ht1, hb1⟩
  have hz1 := Hsz.out t1 ht1.out
  go_wp2_with fail
  refine (cssFeed_any _ _ _ _ (by omega)).mono ?_
  rintro e w2 ⟨r2, t2, rfl, hr2, ht2, hb2⟩
  obtain rfl : r2 = 0 := by rw [hr2.out, ht1.out, cFeed_style]
  go_wp2_with fail
  refine (refStyle_any _ _ (by omega)).mono ?_
  rintro e w3 ⟨t3, rfl, ht3, hb3⟩
  have hz3 := Hsz.out t3 ht3.out
  go_wp2_with fail
  refine (cssFeed_any _ _ _ _ (by omega)).mono ?_
  rintro e w4 ⟨r4, t4, rfl, hr4, ht4, hb4⟩
  obtain rfl : r4 = 0 := by rw [hr4.out, ht3.out, cFeed_style]
  go_wp2_with (go_at_call 14; refine (cssAlive_any _).mono ?_; rintro e w5 ⟨rfl, hb5⟩)
  go_ret
  exact ⟨rfl, then_ (then_ (then_ (then_ hb1 hb2) hb3) hb4) hb5⟩
end Go.Proofs.Ytpddkamkdkgihaa
