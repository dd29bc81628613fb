/- Contracts of package urlscan (first, Step, Feed), of schemes.Allowed and of the reference's Allowed, Lower, Scheme. -/
import Derived.Test.YteepmeejpkbkpaaOct
import Derived.Test.YteepmeejpkbkpaaUrlP
set_option linter.unusedVariables false
namespace Go.Proofs.Yteepmeejpkbkpaa
open Go.RowKit

set_option maxHeartbeats 400000 in
theorem schemesAllowed_any (s : ByteArray) (w : World) :
    Calls Try.prog 13 #[.string s] w fun e w' => e = .returned (.bool (allowedL s.data.toList)) ∧ w = w' := by
  go_enter Try.func13, Try.ntmps13
  go_wp2
  all_goals go_ret
  all_goals (refine ⟨ret_bool ?_, rfl⟩; simp [allowedL, sHttp, sHttps, sMailto, ← ByteArray.toList_eq, *])
set_option maxHeartbeats 400000 in
theorem refAllowed_any (s : ByteArray) (w : World) :
    Calls Try.prog 9 #[.string s] w fun e w' => e = .returned (.bool (allowedL s.data.toList)) ∧ w = w' := by
  go_enter Try.func9, Try.ntmps9
  go_wp2
  all_goals go_ret
  all_goals (refine ⟨ret_bool ?_, rfl⟩; simp [allowedL, sHttp, sHttps, sMailto, ← ByteArray.toList_eq, *])

theorem uFirst_int (w : List UInt8) (n : Int) (h0 : 0 ≤ n) (h1 : n ≤ 255) : uFirst w (bOf n) = if n = 47 then (2, []) else if n = 63 ∨ n = 35 then (3, []) else
    if n = 58 then (if allowedL w then (2, []) else (5, [])) else if w.length < 16 then (1, w ++ [lowB (bOf n)]) else (1, w) := by
  have e : ∀ k : Int, 0 ≤ k → k ≤ 255 → (bOf n = bOf k ↔ n = k) := fun k a b => bOf_eq n k h0 h1 a b
  unfold uFirst
  have e47 := e 47 (by omega) (by omega)
  have e63 := e 63 (by omega) (by omega)
  have e35 := e 35 (by omega) (by omega)
  have e58 := e 58 (by omega) (by omega)
  simp only [show bOf 47 = 47 from rfl, show bOf 63 = 63 from rfl, show bOf 35 = 35 from rfl, show bOf 58 = 58 from rfl] at e47 e63 e35 e58
  simp only [e47, e63, e35, e58]

set_option maxHeartbeats 800000 in
theorem first_any (wd : ByteArray) (n : Int) (h0 : 0 ≤ n) (h1 : n ≤ 255) (w : World) :
    Calls Try.prog 12 #[.string wd, .int .u8 n] w (RIntStr w (uFirst wd.data.toList (bOf n)).1 (uFirst wd.data.toList (bOf n)).2) := by
  have hu := hid (uFirst_int wd.data.toList n h0 h1)
  have hl := len_data wd
  have Hl := hid hl
  clear hl
  have hlow := hid (fun W => lower_any ⟨#[bOf n]⟩ W (by show 1 ≤ _; omega))
  have hco := fun W => conv_one (P := Try.prog) n W 29 9 5 Try.underlying29 Try.underlying5 Try.underlying9 h0 h1
  go_enter Try.func12, Try.ntmps12
  go_wp2_with (first | (go_at_call 13; refine (schemesAllowed_any _ _).mono ?_; rintro e w1 ⟨rfl, rfl⟩) | (go_at_call 14; refine (hlow.out _).mono ?_; rintro e w1 ⟨t, rfl, ht, hb⟩; have hts : t.size ≤ 1 := by rw [← len_data, ht.out]; simp [low]))
  all_goals go_ret2
  all_goals refine ⟨_, _, rfl, hid ?_, hid ?_, ?_⟩
  all_goals subst_vars
  all_goals first | (with_reducible exact Below.refl _ _) | (exact after (by go_grown) hb (by simp)) | skip
  all_goals (first | (have hq : wd.size < 16 := by omega) | (have hq : ¬ wd.size < 16 := by omega) | skip)
  all_goals (try simp only [beq_iff_eq, beq_eq_false_iff_ne, ne_eq] at *)
  all_goals (rw [hu.out, Hl.out]; first | (simp [*]; done) | (simp_all; done) | (rw [data_append, ht.out]; simp [*, low]; done))

theorem uStep_int (p : Int) (w : List UInt8) (n : Int) (h0 : 0 ≤ n) (h1 : n ≤ 255) : uStep p w (bOf n) =
  if p = 0 then uFirst [] (bOf n) else if p = 1 then uFirst w (bOf n) else
  if p = 2 then (if n = 63 ∨ n = 35 then (3, []) else (2, [])) else
  if p = 3 then (3, []) else
  if p = 4 then (if n = 63 ∨ n = 35 then (3, []) else if n = 47 then (2, []) else if n = 58 then (5, []) else (4, [])) else
  (5, []) := by
  have e : ∀ k : Int, 0 ≤ k → k ≤ 255 → (bOf n = bOf k ↔ n = k) := fun k a b => bOf_eq n k h0 h1 a b
  unfold uStep
  have e47 := e 47 (by omega) (by omega)
  have e63 := e 63 (by omega) (by omega)
  have e35 := e 35 (by omega) (by omega)
  have e58 := e 58 (by omega) (by omega)
  simp only [show bOf 47 = 47 from rfl, show bOf 63 = 63 from rfl, show bOf 35 = 35 from rfl, show bOf 58 = 58 from rfl] at e47 e63 e35 e58
  simp only [e47, e63, e35, e58]

set_option maxHeartbeats 1600000 in
theorem step_any (p : Int) (wd : ByteArray) (n : Int) (h0 : 0 ≤ n) (h1 : n ≤ 255) (w : World) :
    Calls Try.prog 10 #[.int .i64 p, .string wd, .int .u8 n] w (RIntStr w (uStep p wd.data.toList (bOf n)).1 (uStep p wd.data.toList (bOf n)).2) := by
  have hu := hid (uStep_int p wd.data.toList n h0 h1)
  go_enter Try.func10, Try.ntmps10
  go_wp2_with (first | (go_at_call 12; refine (first_any _ _ h0 h1 _).mono ?_; rintro e w1 ⟨r, t, rfl, hr, ht, hb⟩))
  all_goals go_ret2
  all_goals refine ⟨_, _, rfl, hid ?_, hid ?_, ?_⟩
  all_goals subst_vars
  all_goals first | (with_reducible exact Below.refl _ _) | (exact hb) | skip
  all_goals (try simp only [beq_iff_eq, beq_eq_false_iff_ne, ne_eq] at *)
  all_goals (rw [hu.out]; first | (simp [*]; done) | (simp_all; done) | (rw [hr.out]; simp [*]; done) | (rw [ht.out]; simp [*]; done))

set_option maxHeartbeats 800000 in
theorem feed_any (p : Int) (wd s : ByteArray) (w : World) (hs : s.size ≤ 1099511627776) :
    Calls Try.prog 7 #[.int .i64 p, .string wd, .string s] w (RIntStr w (uFeed p wd.data.toList s.data.toList).1 (uFeed p wd.data.toList s.data.toList).2) := by
  have kc := fun (w : World) (s : ByteArray) => run_bytes_of_string (P := Try.prog) w 9 29 5 s Try.underlying9 Try.underlying29 Try.underlying5
  have hlen := hid (len_data s)
  go_enter Try.func7, Try.ntmps7
  go_wp2
  go_loopw [0, 1, 13] (fun q x i wr => ∃ (k : Nat) (r : Int) (t : ByteArray), k ≤ s.size ∧ i = .int .i64 k ∧ q = .int .i64 r ∧ x = .string t ∧ Hid (r = (uFeed p wd.data.toList (s.data.toList.take k)).1) ∧ Hid (t.data.toList = (uFeed p wd.data.toList (s.data.toList.take k)).2) ∧ Hid (BytesIn wr w.heap.size s.data.toList) ∧ Below w.heap.size w wr ∧ w.heap.size < wr.heap.size) (fun _ _ i _ => s.size - (intOf i).toNat)
  case atStart => exact ⟨0, p, wd, Nat.zero_le _, rfl, rfl, rfl, hid rfl, hid rfl, hid (BytesIn.new w s _ _ _).drew, by go_grown, by simp⟩
  case round =>
    obtain ⟨k, r, t, hk, rfl, rfl, rfl, hr, ht, hB, hb, hz⟩ := hrel
    by_cases hlt : k < s.size
    · have hkl : k < s.data.toList.length := by rw [hlen.out]; exact hlt
      have hc0 := hB.out k hkl
      have hst := hid (uFeed_take p wd.data.toList s.data.toList k hkl)
      obtain ⟨c, hc⟩ : ∃ c, s.data.toList[k] = c := ⟨_, rfl⟩
      rw [hc] at hc0 hst
      have hcb : (c.toNat : Int) ≤ 255 := by have := c.toNat_lt; omega
      clear hc
      go_wp2_with (go_at_call 10; refine (step_any _ _ _ (by omega) hcb _).mono ?_; rintro e w1 ⟨r1, t1, rfl, hr1, ht1, hb1⟩)
      go_roundw
      case rel =>
        refine ⟨k + 1, r1, t1, by omega, by go_num, rfl, rfl, hid ?_, hid ?_, hid (hB.out.keep hb1 hz), then_ hb hb1, Nat.lt_of_lt_of_le hz hb1.size⟩
        · rw [hst.out, ← hr.out, ← ht.out, hr1.out, bOf_cast]
        · rw [hst.out, ← hr.out, ← ht.out, ht1.out, bOf_cast]
      case measure => simp [intOf]; omega
    · obtain rfl : k = s.size := by omega
      go_wp2
      go_ret2
      refine ⟨r, t, rfl, hid ?_, hid ?_, hb⟩
      · rw [hr.out, List.take_of_length_le (by rw [hlen.out]; exact Nat.le_refl _)]
      · rw [ht.out, List.take_of_length_le (by rw [hlen.out]; exact Nat.le_refl _)]

end Go.Proofs.Yteepmeejpkbkpaa
