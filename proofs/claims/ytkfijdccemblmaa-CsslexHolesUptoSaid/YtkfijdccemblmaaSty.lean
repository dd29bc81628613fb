/- Contracts of the reference's style scanner: muslinref14.plain, Style, Feed (part 3). -/
import Derived.Test.YtkfijdccemblmaaRef1
import Derived.Test.YtkfijdccemblmaaRef2
set_option linter.unusedVariables false
namespace Go.Proofs.Ytkfijdccemblmaa
open Go.RowKit

theorem bOf_is' (n k : Int) (h0 : 0 ≤ n) (h1 : n ≤ 255) (k0 : 0 ≤ k) (k1 : k ≤ 255) {c : UInt8} (hc : bOf k = c) : (bOf n = c) ↔ n = k := by
  subst hc; exact bOf_eq n k h0 h1 k0 k1
theorem tPlain_int (w : List UInt8) (n : Int) (h0 : 0 ≤ n) (h1 : n ≤ 255) : cCode w (bOf n) =
  if isLetter (bOf n) ∨ isDigit (bOf n) ∨ n = 45 ∨ n = 95 then (if w = [63] then (0, [63]) else if w.length < 16 then (0, w ++ [lowB (bOf n)]) else (0, w))
  else if n = 40 then (if w = [117, 114, 108] then (8, []) else if w = [63] then (9, []) else (0, []))
  else if n = 92 then (9, []) else if n = 34 then (1, []) else if n = 39 then (2, []) else if n = 47 then (5, []) else (0, []) := by
  unfold cCode isWordy
  simp only [bOf_is' n 40 h0 h1 (by omega) (by omega) (c := 40) rfl, bOf_is' n 92 h0 h1 (by omega) (by omega) (c := 92) rfl, bOf_is' n 34 h0 h1 (by omega) (by omega) (c := 34) rfl, bOf_is' n 39 h0 h1 (by omega) (by omega) (c := 39) rfl, bOf_is' n 47 h0 h1 (by omega) (by omega) (c := 47) rfl,
    Bool.or_eq_true, beq_iff_eq, bOf_is' n 45 h0 h1 (by omega) (by omega) (c := 45) rfl, bOf_is' n 95 h0 h1 (by omega) (by omega) (c := 95) rfl, or_assoc]
theorem tStep_int (p : Int) (w : List UInt8) (n : Int) (h0 : 0 ≤ n) (h1 : n ≤ 255) : cStep p w (bOf n) =
  if p = 0 then cCode w (bOf n) else if p = 1 ∨ p = 2 then (if (p = 1 ∧ n = 34) ∨ (p = 2 ∧ n = 39) then (0, []) else if n = 92 then (p + 2, []) else if n = 10 ∨ n = 13 then (9, []) else (p, [])) else if p = 3 ∨ p = 4 then (p - 2, []) else
  if p = 5 then (if n = 42 then (6, []) else cCode [] (bOf n)) else if p = 6 ∨ p = 7 then (if n = 42 then (7, []) else if n = 47 ∧ p = 7 then (0, []) else (6, [])) else if p = 8 then (if n = 41 then (0, []) else (8, [])) else (9, []) := by
  unfold cStep cQuoted cRemark
  simp only [bOf_is' n 41 h0 h1 (by omega) (by omega) (c := 41) rfl, bOf_is' n 42 h0 h1 (by omega) (by omega) (c := 42) rfl, bOf_is' n 47 h0 h1 (by omega) (by omega) (c := 47) rfl, bOf_is' n 92 h0 h1 (by omega) (by omega) (c := 92) rfl, bOf_is' n 34 h0 h1 (by omega) (by omega) (c := 34) rfl, bOf_is' n 39 h0 h1 (by omega) (by omega) (c := 39) rfl, bOf_is' n 10 h0 h1 (by omega) (by omega) (c := 10) rfl, bOf_is' n 13 h0 h1 (by omega) (by omega) (c := 13) rfl]
  rcases Int.lt_trichotomy p 0 with h | h | h
  · rw [if_neg (by omega), if_neg (by omega), if_neg (by omega), if_neg (by omega), if_neg (by omega), if_neg (by omega), if_neg (by omega), if_neg (by omega), if_neg (by omega), if_neg (by omega)]
  · subst h; rfl
  · by_cases h9 : p ≤ 8
    · obtain rfl | rfl | rfl | rfl | rfl | rfl | rfl | rfl : p = 1 ∨ p = 2 ∨ p = 3 ∨ p = 4 ∨ p = 5 ∨ p = 6 ∨ p = 7 ∨ p = 8 := by omega
      all_goals simp
      all_goals (repeat' split) <;> simp_all
    · rw [if_neg (by omega), if_neg (by omega), if_neg (by omega), if_neg (by omega), if_neg (by omega), if_neg (by omega), if_neg (by omega), if_neg (by omega), if_neg (by omega), if_neg (by omega)]

set_option maxHeartbeats 1600000 in
theorem refPlain_any (wd : ByteArray) (n : Int) (h0 : 0 ≤ n) (h1 : n ≤ 255) (w : World) :
    Calls Try.prog 31 #[.string wd, .int .u8 n] w (RIntStr w (cCode wd.data.toList (bOf n)).1 (cCode wd.data.toList (bOf n)).2) := by
  have hu := hid (tPlain_int wd.data.toList n h0 h1)
  have Hl := hid (len_data wd)
  have hco := fun (m : Int) (h0 : 0 ≤ m) (h1 : m ≤ 255) W => conv_one (P := Try.prog) m W 49 9 5 Try.underlying49 Try.underlying5 Try.underlying9 h0 h1
  have htl := hid (ByteArray.toList_eq wd)
  have hcase : (wd.toList == [63]) = true ∧ wd.toList = [63] ∨ (wd.toList == [63]) = false ∧ ¬ wd.toList = [63] ∧ wd.size < 16 ∨ (wd.toList == [63]) = false ∧ ¬ wd.toList = [63] ∧ ¬ wd.size < 16 := by
    by_cases h : wd.toList = [63]
    · exact .inl ⟨beq_iff_eq.2 h, h⟩
    · by_cases h2 : wd.size < 16
      · exact .inr (.inl ⟨beq_eq_false_iff_ne.2 h, h, h2⟩)
      · exact .inr (.inr ⟨beq_eq_false_iff_ne.2 h, h, h2⟩)
  rcases hcase with ⟨hqb, hq1⟩ | ⟨hqb, hq1, hq⟩ | ⟨hqb, hq1, hq⟩
  all_goals have HQ := hid hq1
  all_goals clear hq1
  all_goals go_enter Try.func31, Try.ntmps31
  all_goals go_wp2_with (first | (go_at_call 32; refine (refLetter_any _ h0 h1 _).mono ?_; rintro e w1 ⟨rfl, rfl⟩) | (go_at_call 33; refine (refDigit_any _ h0 h1 _).mono ?_; rintro e w1 ⟨rfl, rfl⟩) | (go_at_call 29; refine (refLower_any _ _ (by show 1 ≤ _; omega)).mono ?_; rintro e w1 ⟨t, rfl, ht, hb⟩; have hts : t.size ≤ 1 := by rw [← len_data, ht.out]; simp [low]))
  all_goals go_ret2
  all_goals refine ⟨_, _, rfl, hid ?_, hid ?_, ?_⟩
  all_goals subst_vars
  all_goals first | (with_reducible exact Below.refl _ _) | (exact after (by go_grown) hb (by simp)) | skip
  all_goals (try simp only [beq_iff_eq, beq_eq_false_iff_ne, ne_eq] at *)
  all_goals (try (have hq95 : n = 95 := by omega))
  all_goals (have hq1 := HQ.out; rw [hu.out, Hl.out, ← htl.out]; first | (simp [*]; done) | (simp_all; done) | (rw [data_append, ht.out, ← htl.out]; simp [*, low]; done))

set_option maxHeartbeats 1600000 in
theorem refSty_any (p : Int) (wd : ByteArray) (n : Int) (h0 : 0 ≤ n) (h1 : n ≤ 255) (w : World) :
    Calls Try.prog 20 #[.int .i64 p, .string wd, .int .u8 n] w (RIntStr w (cStep p wd.data.toList (bOf n)).1 (cStep p wd.data.toList (bOf n)).2) := by
  have hu := hid (tStep_int p wd.data.toList n h0 h1)
  go_enter Try.func20, Try.ntmps20
  go_wp2_with (first | (go_at_call 31; refine (refPlain_any _ _ h0 h1 _).mono ?_; rintro e w1 ⟨r, t, rfl, hr, ht, hb⟩))
  all_goals go_ret2
  all_goals refine ⟨_, _, rfl, hid ?_, hid ?_, ?_⟩
  all_goals subst_vars
  all_goals first | (with_reducible exact Below.refl _ _) | (exact hb) | skip
  all_goals (try simp only [beq_iff_eq, beq_eq_false_iff_ne, ne_eq] at *)
  all_goals (rw [hu.out]; first | (simp [*]; done) | (simp_all; done) | (rw [hr.out]; simp [*]; done) | (rw [ht.out]; simp [*]; done) | (subst_vars; simp [wrap64]; done))

set_option maxHeartbeats 800000 in
theorem refFeed3_any (p : Int) (wd s : ByteArray) (w : World) (hs : s.size ≤ 1099511627776) :
    Calls Try.prog 11 #[.int .i64 3, .int .i64 p, .string wd, .string s] w (RIntStr w (cFeed p wd.data.toList s.data.toList).1 (cFeed p wd.data.toList s.data.toList).2) := by
  have hlen := hid (len_data s)
  go_enter Try.func11, Try.ntmps11
  go_wp2
  go_loopw [1, 2, 10] (fun q x i wr => ∃ (k : Nat) (r : Int) (t : ByteArray), k ≤ s.size ∧ i = .int .i64 k ∧ q = .int .i64 r ∧ x = .string t ∧ Hid (r = (cFeed p wd.data.toList (s.data.toList.take k)).1) ∧ Hid (t.data.toList = (cFeed p wd.data.toList (s.data.toList.take k)).2) ∧ Below w.heap.size w wr) (fun _ _ i _ => s.size - (intOf i).toNat)
  case atStart => exact ⟨0, p, wd, Nat.zero_le _, rfl, rfl, rfl, hid rfl, hid rfl, Below.refl _ _⟩
  case round =>
    obtain ⟨k, r, t, hk, rfl, rfl, rfl, hr, ht, hb⟩ := hrel
    by_cases hlt : k < s.size
    · have hkl : k < s.data.toList.length := by rw [hlen.out]; exact hlt
      have hst := hid (cFeed_take p wd.data.toList s.data.toList k hkl)
      obtain ⟨c, hc⟩ : ∃ c, s[k] = c := ⟨_, rfl⟩
      rw [data_get s k hlt, hc] at hst
      have hcb : (c.toNat : Int) ≤ 255 := by have := c.toNat_lt; omega
      go_wp2_with (go_at_call 20; refine (refSty_any _ _ _ (by omega) hcb _).mono ?_; rintro e w1 ⟨r1, t1, rfl, hr1, ht1, hb1⟩)
      go_roundw
      case rel =>
        refine ⟨k + 1, r1, t1, by omega, by go_num, rfl, rfl, hid ?_, hid ?_, then_ hb hb1⟩
        · rw [hst.out, ← hr.out, ← ht.out, hr1.out, bOf_cast]
        · rw [hst.out, ← hr.out, ← ht.out, ht1.out, bOf_cast]
      case measure => simp [intOf]; omega
    · obtain rfl : k = s.size := by omega
      go_wp2
      go_ret2
      refine ⟨r, t, rfl, hid ?_, hid ?_, hb⟩
      · rw [hr.out, List.take_of_length_le (by rw [hlen.out]; exact Nat.le_refl _)]
      · rw [ht.out, List.take_of_length_le (by rw [hlen.out]; exact Nat.le_refl _)]
end Go.Proofs.Ytkfijdccemblmaa
