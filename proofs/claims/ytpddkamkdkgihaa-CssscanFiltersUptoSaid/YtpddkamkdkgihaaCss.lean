/- Contracts of package cssscan: code, quoted, remark, Step, Feed. -/
import Derived.Test.YtpddkamkdkgihaaOct2
set_option linter.unusedVariables false
namespace Go.Proofs.Ytpddkamkdkgihaa
open Go.RowKit

theorem bOf_is (n k : Int) (h0 : 0 ≤ n) (h1 : n ≤ 255) (k0 : 0 ≤ k) (k1 : k ≤ 255) {c : UInt8} (hc : bOf k = c) : (bOf n = c) ↔ n = k := by
  subst hc; exact bOf_eq n k h0 h1 k0 k1

theorem cCode_int (w : List UInt8) (n : Int) (h0 : 0 ≤ n) (h1 : n ≤ 255) : cCode w (bOf n) =
  if isWordy (bOf n) then (if w = [63] then (0, [63]) else if w.length < 16 then (0, w ++ [lowB (bOf n)]) else (0, w))
  else if n = 40 then (if w = [117, 114, 108] then (8, []) else if w = [63] then (9, []) else (0, []))
  else if n = 92 then (9, []) else if n = 34 then (1, []) else if n = 39 then (2, []) else if n = 47 then (5, []) else (0, []) := by
  unfold cCode
  simp only [bOf_is n 40 h0 h1 (by omega) (by omega) (c := 40) rfl, bOf_is n 92 h0 h1 (by omega) (by omega) (c := 92) rfl, bOf_is n 34 h0 h1 (by omega) (by omega) (c := 34) rfl, bOf_is n 39 h0 h1 (by omega) (by omega) (c := 39) rfl, bOf_is n 47 h0 h1 (by omega) (by omega) (c := 47) rfl]
theorem cQuoted_int (p n : Int) (h0 : 0 ≤ n) (h1 : n ≤ 255) : cQuoted p (bOf n) =
  if (n = 34 ∧ p = 1) ∨ (n = 39 ∧ p = 2) then 0 else if n = 92 then p + 2 else if n = 10 ∨ n = 13 then 9 else p := by
  unfold cQuoted
  simp only [bOf_is n 92 h0 h1 (by omega) (by omega) (c := 92) rfl, bOf_is n 34 h0 h1 (by omega) (by omega) (c := 34) rfl, bOf_is n 39 h0 h1 (by omega) (by omega) (c := 39) rfl, bOf_is n 10 h0 h1 (by omega) (by omega) (c := 10) rfl, bOf_is n 13 h0 h1 (by omega) (by omega) (c := 13) rfl]
theorem cRemark_int (p n : Int) (h0 : 0 ≤ n) (h1 : n ≤ 255) : cRemark p (bOf n) =
  if p = 5 then (if n = 42 then (6, []) else cCode [] (bOf n)) else if n = 42 then (7, []) else if p = 7 ∧ n = 47 then (0, []) else (6, []) := by
  unfold cRemark
  simp only [bOf_is n 42 h0 h1 (by omega) (by omega) (c := 42) rfl, bOf_is n 47 h0 h1 (by omega) (by omega) (c := 47) rfl]
theorem cStep_int (p : Int) (w : List UInt8) (n : Int) (h0 : 0 ≤ n) (h1 : n ≤ 255) : cStep p w (bOf n) =
  if p = 0 then cCode w (bOf n) else if p = 1 ∨ p = 2 then (cQuoted p (bOf n), []) else if p = 3 ∨ p = 4 then (p - 2, []) else
  if p = 5 ∨ p = 6 ∨ p = 7 then cRemark p (bOf n) else if p = 8 then (if n = 41 then (0, []) else (8, [])) else (9, []) := by
  unfold cStep
  simp only [bOf_is n 41 h0 h1 (by omega) (by omega) (c := 41) rfl]

set_option maxHeartbeats 1600000 in
theorem cssCode_any (wd : ByteArray) (n : Int) (h0 : 0 ≤ n) (h1 : n ≤ 255) (w : World) :
    Calls Try.prog 39 #[.string wd, .int .u8 n] w (RIntStr w (cCode wd.data.toList (bOf n)).1 (cCode wd.data.toList (bOf n)).2) := by
  have hu := hid (cCode_int wd.data.toList n h0 h1)
  have Hl := hid (len_data wd)
  have hlow := hid (fun W => lower_any ⟨#[bOf n]⟩ W (by show 1 ≤ _; omega))
  have hco := fun W => conv_one (P := Try.prog) n W 40 9 5 Try.underlying40 Try.underlying5 Try.underlying9 h0 h1
  have htl := hid (ByteArray.toList_eq wd)
  go_enter Try.func39, Try.ntmps39
  go_wp2_with (first | (go_at_call 60; refine (cssWordy_any _ h0 h1 _).mono ?_; rintro e w1 ⟨rfl, rfl⟩) | (go_at_call 25; refine (hlow.out _).mono ?_; rintro e w1 ⟨t, rfl, ht, hb⟩; have hts : t.size ≤ 1 := by rw [← len_data, ht.out]; simp [low]))
  all_goals go_ret2
  all_goals refine ⟨_, _, rfl, hid ?_, hid ?_, ?_⟩
  all_goals subst_vars
  all_goals first | (with_reducible exact Below.refl _ _) | (exact after (by go_grown) hb (by simp)) | skip
  all_goals (first | (have hq : wd.size < 16 := by omega) | (have hq : ¬ wd.size < 16 := by omega) | skip)
  all_goals (try simp only [beq_iff_eq, beq_eq_false_iff_ne, ne_eq] at *)
  all_goals (rw [hu.out, Hl.out, ← htl.out]; first | (simp [*]; done) | (simp_all; done) | (rw [data_append, ht.out, ← htl.out]; simp [*, low]; done))

set_option maxHeartbeats 800000 in
theorem cssQuoted_any (p n : Int) (hp0 : 0 ≤ p) (hp1 : p ≤ 9) (h0 : 0 ≤ n) (h1 : n ≤ 255) (w : World) :
    Calls Try.prog 40 #[.int .i64 p, .int .u8 n] w fun e w' => e = .returned (.int .i64 (cQuoted p (bOf n))) ∧ w = w' := by
  have hu := hid (cQuoted_int p n h0 h1)
  go_enter Try.func40, Try.ntmps40
  go_wp2
  all_goals go_ret
  all_goals subst_vars
  all_goals (refine ⟨ret_int ?_, rfl⟩)
  all_goals (try simp only [beq_iff_eq, beq_eq_false_iff_ne, ne_eq] at *)
  all_goals (rw [hu.out]; first | (simp [*]; done) | (simp_all; done) | (split <;> omega) | (repeat' split <;> omega))

set_option maxHeartbeats 800000 in
theorem cssRemark_any (p n : Int) (h0 : 0 ≤ n) (h1 : n ≤ 255) (w : World) :
    Calls Try.prog 41 #[.int .i64 p, .int .u8 n] w (RIntStr w (cRemark p (bOf n)).1 (cRemark p (bOf n)).2) := by
  have hu := hid (cRemark_int p n h0 h1)
  go_enter Try.func41, Try.ntmps41
  go_wp2_with (first | (go_at_call 39; refine (cssCode_any _ _ h0 h1 _).mono ?_; rintro e w1 ⟨r, t, rfl, hr, ht, hb⟩))
  all_goals go_ret2
  all_goals refine ⟨_, _, rfl, hid ?_, hid ?_, ?_⟩
  all_goals subst_vars
  all_goals first | (with_reducible exact Below.refl _ _) | (exact hb) | skip
  all_goals (try simp only [beq_iff_eq, beq_eq_false_iff_ne, ne_eq] at *)
  all_goals (rw [hu.out]; first | (simp [*]; done) | (simp_all; done) | (rw [hr.out]; simp [*]; done) | (rw [ht.out]; simp [*]; done))

set_option maxHeartbeats 1600000 in
theorem cssStep_any (p : Int) (wd : ByteArray) (n : Int) (h0 : 0 ≤ n) (h1 : n ≤ 255) (w : World) :
    Calls Try.prog 23 #[.int .i64 p, .string wd, .int .u8 n] w (RIntStr w (cStep p wd.data.toList (bOf n)).1 (cStep p wd.data.toList (bOf n)).2) := by
  have hu := hid (cStep_int p wd.data.toList n h0 h1)
  go_enter Try.func23, Try.ntmps23
  go_wp2_with (first | (go_at_call 39; refine (cssCode_any _ _ h0 h1 _).mono ?_; rintro e w1 ⟨r, t, rfl, hr, ht, hb⟩) | (go_at_call 41; refine (cssRemark_any _ _ h0 h1 _).mono ?_; rintro e w1 ⟨r, t, rfl, hr, ht, hb⟩) | (go_at_call 40; refine (cssQuoted_any _ _ (by simp only [beq_iff_eq] at *; omega) (by simp only [beq_iff_eq] at *; omega) h0 h1 _).mono ?_; rintro e w1 ⟨rfl, rfl⟩))
  all_goals go_ret2
  all_goals refine ⟨_, _, rfl, hid ?_, hid ?_, ?_⟩
  all_goals subst_vars
  all_goals first | (with_reducible exact Below.refl _ _) | (exact hb) | skip
  all_goals (try simp only [beq_iff_eq, beq_eq_false_iff_ne, ne_eq] at *)
  all_goals (rw [hu.out]; first | (simp [*]; done) | (simp_all; done) | (rw [hr.out]; simp [*]; done) | (rw [ht.out]; simp [*]; done) | (subst_vars; simp [wrap64]; done))

set_option maxHeartbeats 800000 in
theorem cssFeed_any (p : Int) (wd s : ByteArray) (w : World) (hs : s.size ≤ 1099511627776) :
    Calls Try.prog 12 #[.int .i64 p, .string wd, .string s] w (RIntStr w (cFeed p wd.data.toList s.data.toList).1 (cFeed p wd.data.toList s.data.toList).2) := by
  have kc := fun (w : World) (s : ByteArray) => run_bytes_of_string (P := Try.prog) w 9 40 5 s Try.underlying9 Try.underlying40 Try.underlying5
  have hlen := hid (len_data s)
  go_enter Try.func12, Try.ntmps12
  go_wp2
  go_loopw [0, 1, 13] (fun q x i wr => ∃ (k : Nat) (r : Int) (t : ByteArray), k ≤ s.size ∧ i = .int .i64 k ∧ q = .int .i64 r ∧ x = .string t ∧ Hid (r = (cFeed p wd.data.toList (s.data.toList.take k)).1) ∧ Hid (t.data.toList = (cFeed p wd.data.toList (s.data.toList.take k)).2) ∧ Hid (BytesIn wr w.heap.size s.data.toList) ∧ Below w.heap.size w wr ∧ w.heap.size < wr.heap.size) (fun _ _ i _ => s.size - (intOf i).toNat)
  case atStart => exact ⟨0, p, wd, Nat.zero_le _, rfl, rfl, rfl, hid rfl, hid rfl, hid (BytesIn.new w s _ _ _).drew, by go_grown, by simp⟩
  case round =>
    obtain ⟨k, r, t, hk, rfl, rfl, rfl, hr, ht, hB, hb, hz⟩ := hrel
    by_cases hlt : k < s.size
    · have hkl : k < s.data.toList.length := by rw [hlen.out]; exact hlt
      have hc0 := hB.out k hkl
      have hst := hid (cFeed_take p wd.data.toList s.data.toList k hkl)
      obtain ⟨c, hc⟩ : ∃ c, s.data.toList[k] = c := ⟨_, rfl⟩
      rw [hc] at hc0 hst
      have hcb : (c.toNat : Int) ≤ 255 := by have := c.toNat_lt; omega
      clear hc
      go_wp2_with (go_at_call 23; refine (cssStep_any _ _ _ (by omega) hcb _).mono ?_; rintro e w1 ⟨r1, t1, rfl, hr1, ht1, hb1⟩)
      go_roundw
      case rel =>
        refine ⟨k + 1, r1, t1, by omega, by go_num, rfl, rfl, hid ?_, hid ?_, hid (hB.out.keep hb1 hz), then_ hb hb1, Nat.lt_of_lt_of_le hz hb1.size⟩
        · rw [hst.out, ← hr.out, ← ht.out, hr1.out, bOf_cast]
        · rw [hst.out, ← hr.out, ← ht.out, ht1.out, bOf_cast]
      case measure => simp [intOf]; omega
    · obtain rfl : k = s.size := by omega
      go_wp2
      go_ret2
      refine ⟨r, t, rfl, hid ?_, hid ?_, hb⟩
      · rw [hr.out, List.take_of_length_le (by rw [hlen.out]; exact Nat.le_refl _)]
      · rw [ht.out, List.take_of_length_le (by rw [hlen.out]; exact Nat.le_refl _)]

end Go.Proofs.Ytpddkamkdkgihaa
