/- urlscan: the reference's Scheme, and the walk of UrlscanSchemes. -/
import Derived.Test.YteepmeejpkbkpaaUrlA
import Derived.Test.YteepmeejpkbkpaaRef1
set_option linter.unusedVariables false
namespace Go.Proofs.Yteepmeejpkbkpaa
open Go.RowKit

theorem u8_is {c : UInt8} {n : Int} (h : ((c.toNat : Int) == n) = true) : c = bOf n := by rw [← bOf_cast c, beq_iff_eq.1 h]
theorem u8_not {c : UInt8} {n : Int} (h : ((c.toNat : Int) == n) = false) (h0 : 0 ≤ n) (h1 : n ≤ 255) : c ≠ bOf n := by
  intro e
  have h2 := beq_eq_false_iff_ne.1 h
  rw [e, bOf_toNat n h0 h1] at h2
  exact h2 rfl
theorem sg58 {c : UInt8} (pre r : List UInt8) (h : ((c.toNat : Int) == 58) = true) : schemeGo pre (c :: r) = (low pre, true) := by
  rw [u8_is h]; rfl
theorem sgq {c : UInt8} (pre r : List UInt8) (h : ((c.toNat : Int) == 47) = true ∨ ((c.toNat : Int) == 63) = true ∨ ((c.toNat : Int) == 35) = true) : schemeGo pre (c :: r) = ([], false) := by
  rcases h with h | h | h <;> (rw [u8_is h]; rfl)
theorem sgn {c : UInt8} (pre r : List UInt8) (h0 : ((c.toNat : Int) == 58) = false) (h1 : ((c.toNat : Int) == 47) = false) (h2 : ((c.toNat : Int) == 63) = false) (h3 : ((c.toNat : Int) == 35) = false) : schemeGo pre (c :: r) = schemeGo (pre ++ [c]) r := by
  rw [schemeGo, if_neg (show c ≠ 58 from u8_not h0 (by omega) (by omega)), if_neg]
  rintro (h | h | h)
  · exact u8_not h1 (by omega) (by omega) h
  · exact u8_not h2 (by omega) (by omega) h
  · exact u8_not h3 (by omega) (by omega) h

set_option maxHeartbeats 800000 in
theorem scheme_any (s : ByteArray) (w : World) (hs : s.size ≤ 1099511627775) :
    Calls Try.prog 8 #[.string s] w (RStrBool w (schemeGo [] s.data.toList).1 (schemeGo [] s.data.toList).2) := by
  have hlen := hid (len_data s)
  go_enter Try.func8, Try.ntmps8
  go_wp2
  go_loop [4] (fun i => ∃ k : Nat, k ≤ s.size ∧ i = .int .i64 k ∧ Hid (schemeGo (s.data.toList.take k) (s.data.toList.drop k) = schemeGo [] s.data.toList)) (fun i => s.size - (intOf i).toNat)
  case atStart => exact ⟨0, Nat.zero_le _, rfl, hid rfl⟩
  case round =>
    obtain ⟨k, hk, rfl, hS⟩ := hrel
    by_cases hlt : k < s.size
    · have hkl : k < s.data.toList.length := by rw [hlen.out]; exact hlt
      have hlow := hid (fun W => refLower_any (s.extract 0 k) W (by rw [ByteArray.size_extract]; omega))
      obtain ⟨c, hc⟩ : ∃ c, s[k] = c := ⟨_, rfl⟩
      have hd : Hid (s.data.toList.drop k = c :: s.data.toList.drop (k + 1)) := hid (by rw [List.drop_eq_getElem_cons hkl]; congr 1)
      have hcb : (c.toNat : Int) ≤ 255 := by have := c.toNat_lt; omega
      go_wp2_with (go_at_call 11; refine (hlow.out _).mono ?_; rintro e w1 ⟨t, rfl, ht, hb1⟩)
      · go_ret2
        have e := hS.out
        rw [hd.out, sg58 _ _ ‹_›] at e
        refine ⟨_, _, rfl, hid ?_, hid ?_, hb1⟩
        · rw [ht.out, ← e, data_extract]; rfl
        · rw [← e]
      iterate 3
        · go_ret2
          have e := hS.out
          rw [hd.out, sgq _ _ (by first | exact .inl ‹_› | exact .inr (.inl ‹_›) | exact .inr (.inr ‹_›))] at e
          refine ⟨_, _, rfl, hid ?_, hid ?_, Below.refl _ _⟩
          · rw [← e]
          · rw [← e]
      · go_round
        case rel =>
          refine ⟨k + 1, by omega, by go_num, hid ?_⟩
          rw [← hS.out, hd.out, sgn _ _ ‹_› ‹_› ‹_› ‹_›, List.take_succ_eq_append_getElem hkl, data_get s k hlt, hc]
        case measure => simp [intOf]; omega
    · obtain rfl : k = s.size := by omega
      go_wp2
      go_ret2
      refine ⟨_, _, rfl, hid ?_, hid ?_, Below.refl _ _⟩
      all_goals (rw [← hS.out, List.drop_of_length_le (by rw [hlen.out]; exact Nat.le_refl _)]; simp [schemeGo])

set_option maxHeartbeats 800000 in
theorem schemes_any (s : ByteArray) (w : World) (hs : s.size ≤ 1048576) :
    Calls Try.prog 3 #[.string s] w fun e w' => e = .returned (.bool true) ∧ Below w.heap.size w w' := by
  go_enter Try.func3, Try.ntmps3
  go_wp2_with (first | (go_at_call 6; refine (alive_any _).mono ?_; rintro e w1 ⟨rfl, hb1⟩))
  refine (feed_any _ _ _ _ (by omega)).mono ?_
  rintro e w2 ⟨r, t, rfl, hr, ht, hb2⟩
  go_wp2_with fail
  refine (scheme_any _ _ (by omega)).mono ?_
  rintro e w3 ⟨t3, r3, rfl, ht3, hr3, hb3⟩
  have hl3 := hid (len_data t3)
  have key : t3.size ≤ 16 → ((r == 5) = (r3 && !allowedL t3.data.toList)) := by
    intro h
    have e := uFeed_scheme s.data.toList [] [] 0 (.inl ⟨rfl, rfl⟩) (fun _ => rfl) (fun h => by simp at h) (by rw [← ht3.out, hl3.out]; exact h)
    have hr' : r = (uFeed 0 [] s.data.toList).1 := hr.out
    rw [← hr', ← hr3.out, ← ht3.out] at e
    rw [Bool.eq_iff_iff]
    simp only [beq_iff_eq, Bool.and_eq_true, Bool.not_eq_true']
    exact e
  have Key := hid key
  clear key
  by_cases h16 : t3.size ≤ 16
  · have k0 := Key.out h16
    have K := hid k0
    clear k0
    cases r3 with
    | false =>
      have k1 : (r == 5) = false := by rw [K.out]; rfl
      go_wp2
      go_ret
      exact ⟨rfl, then_ (then_ hb1 hb2) hb3⟩
    | true =>
      cases ha : allowedL t3.data.toList with
      | false =>
        have k1 : (r == 5) = true := by rw [K.out, ha]; rfl
        go_wp2_with (go_at_call 9; refine (refAllowed_any _ _).mono ?_; rintro e w4 ⟨rfl, rfl⟩)
        go_ret
        exact ⟨by simp, then_ (then_ hb1 hb2) hb3⟩
      | true =>
        have k1 : (r == 5) = false := by rw [K.out, ha]; rfl
        go_wp2_with (go_at_call 9; refine (refAllowed_any _ _).mono ?_; rintro e w4 ⟨rfl, rfl⟩)
        go_ret
        exact ⟨by simp, then_ (then_ hb1 hb2) hb3⟩
  · go_wp2
    go_ret
    exact ⟨rfl, then_ (then_ hb1 hb2) hb3⟩
end Go.Proofs.Yteepmeejpkbkpaa
