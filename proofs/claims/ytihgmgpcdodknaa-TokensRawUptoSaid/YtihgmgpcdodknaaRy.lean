/- The pages' small words: Begins, Has, Digit, digit, Unhex of one octet, run, number. -/
import Derived.Test.YtihgmgpcdodknaaUnfP
import Derived.Test.YtihgmgpcdodknaaRepU
set_option linter.unusedVariables false
namespace Go.Proofs.Ytihgmgpcdodknaa
open Go.RowKit

theorem hasB_snoc (l : List UInt8) (b c : UInt8) : hasB (l ++ [b]) c = (hasB l c || b == c) := by
  simp [hasB, List.contains_eq_mem]
  by_cases h : c ∈ l
  · simp [h]
  · by_cases h2 : b = c
    · simp [h2]
    · simp [h, h2, Ne.symm h2]

/-- a prefix? -/
def begL (p s : List UInt8) : Bool := p.isPrefixOf s
def dgI (c : UInt8) : Int := if isH c then (dval c : Int) else -1
theorem prefix_take (p s : List UInt8) (h : p.length ≤ s.length) : begL p s = decide (s.take p.length = p) := by
  unfold begL
  rw [Bool.eq_iff_iff, List.isPrefixOf_iff_prefix, decide_eq_true_iff]
  constructor
  · rintro ⟨r, rfl⟩; simp
  · intro e; exact ⟨s.drop p.length, by conv => lhs; lhs; rw [← e]
                                        exact List.take_append_drop _ _⟩
theorem prefix_long (p s : List UInt8) (h : ¬ p.length ≤ s.length) : begL p s = false := by
  unfold begL
  rw [Bool.eq_false_iff]
  intro e
  rw [List.isPrefixOf_iff_prefix] at e
  exact h e.length_le

set_option maxHeartbeats 800000 in
theorem begins_any (p s : ByteArray) (w : World) (hp : p.size ≤ 1099511627776) (hs : s.size ≤ 1099511627776) :
    Calls Try.prog 23 #[.string p, .string s] w fun e w' => e = .returned (.bool (begL p.data.toList s.data.toList)) ∧ w = w' := by
  have Hlp := hid (len_data p)
  have Hls := hid (len_data s)
  by_cases hl : (p.size : Int) ≤ s.size
  · have Hpt := hid (prefix_take p.data.toList s.data.toList (by rw [Hlp.out, Hls.out]; omega))
    obtain ⟨q, hq⟩ : ∃ q, ((s.extract 0 p.size).toList == p.toList) = q := ⟨_, rfl⟩
    have Hq := hid hq
    go_enter Try.func23, Try.ntmps23
    go_wp2
    all_goals go_ret
    all_goals
      refine ⟨ret_bool ?_, rfl⟩
      rw [Hpt.out, ← Hq.out, ByteArray.toList_eq, ByteArray.toList_eq, data_extract, List.drop_zero, Hlp.out]
      rw [Bool.eq_iff_iff]; simp
  · have Hpt := hid (prefix_long p.data.toList s.data.toList (by rw [Hlp.out, Hls.out]; omega))
    go_enter Try.func23, Try.ntmps23
    go_wp2
    all_goals go_ret
    all_goals (refine ⟨ret_bool ?_, rfl⟩; rw [Hpt.out])

theorem isD_int (n : Int) (h0 : 0 ≤ n) (h1 : n ≤ 255) : isD (bOf n) = (decide (48 ≤ n) && decide (n ≤ 57)) :=
  byte_all (p := fun c n => isD c = (decide (48 ≤ n) && decide (n ≤ 57))) (by decide +kernel) n h0 h1
set_option maxHeartbeats 400000 in
theorem refDigit_any (n : Int) (h0 : 0 ≤ n) (h1 : n ≤ 255) (w : World) :
    Calls Try.prog 67 #[.int .u8 n] w fun e w' => e = .returned (.bool (isD (bOf n))) ∧ w = w' := by
  have hl := hid (isD_int n h0 h1)
  go_enter Try.func67, Try.ntmps67
  go_wp2
  all_goals go_ret
  all_goals (refine ⟨ret_bool ?_, rfl⟩; rw [hl.out]; first | (simp [*]; done) | (simp; omega))

set_option maxHeartbeats 400000 in
theorem refHas_any (s : ByteArray) (n : Int) (w : World) (hs : s.size ≤ 1099511627776) (h0 : 0 ≤ n) (h1 : n ≤ 255) :
    Calls Try.prog 80 #[.string s, .int .u8 n] w fun e w' => e = .returned (.bool (hasB s.data.toList (bOf n))) ∧ w = w' := by
  have Hlen := hid (len_data s)
  go_enter Try.func80, Try.ntmps80
  go_wp2
  go_loopw [5] (fun i wr => ∃ k : Nat, k ≤ s.size ∧ i = .int .i64 k ∧ Hid (hasB (s.data.toList.take k) (bOf n) = false) ∧ wr = w) (fun i _ => s.size - (intOf i).toNat)
  case atStart => exact ⟨0, Nat.zero_le _, rfl, hid rfl, rfl⟩
  case round =>
    obtain ⟨k, hk, rfl, hr, rfl⟩ := hrel
    by_cases hlt : k < s.size
    · have hkl : k < s.data.toList.length := by rw [Hlen.out]; exact hlt
      obtain ⟨x, hx⟩ : ∃ x, s[k]'hlt = x := ⟨_, rfl⟩
      have Hst : Hid (hasB (s.data.toList.take (k + 1)) (bOf n) = (x == bOf n)) := hid (by
        rw [take_one _ k hkl, hasB_snoc, hr.out, data_get s k hlt hkl, hx]; rfl)
      have Hmem : Hid (x ∈ s.data.toList) := hid (by rw [← hx, ← data_get s k hlt hkl]; exact List.getElem_mem _)
      obtain ⟨m, hm⟩ : ∃ m : Int, ((s[k]'hlt).toNat : Int) = m := ⟨_, rfl⟩
      have hm0 : 0 ≤ m ∧ m ≤ 255 := by have := (s[k]'hlt).toNat_lt; omega
      have Heq : Hid ((m = n) ↔ x = bOf n) := hid (by
        rw [← bOf_eq m n hm0.1 hm0.2 h0 h1, ← hm, bOf_cast, hx])
      clear hx
      by_cases hmn : m = n
      · subst hmn
        go_wp2
        go_ret
        refine ⟨ret_bool ?_, rfl⟩
        rw [← Heq.out.mp (by first | trivial | rfl), hasB_true Hmem.out]
      · have hne : (m == n) = false := beq_eq_false_iff_ne.2 hmn
        have Hx : Hid ((x == bOf n) = false) := hid (beq_eq_false_iff_ne.2 (fun e => hmn (Heq.out.mpr e)))
        go_wp2
        go_roundw
        case rel => exact ⟨k + 1, by omega, by go_num, hid (by rw [Hst.out, Hx.out]), by first | trivial | rfl⟩
        case measure => simp [intOf]; omega
    · obtain rfl : k = s.size := by omega
      have hr2 := hr.out
      rw [take_all] at hr2
      have HR := hid hr2
      clear hr2
      go_wp2
      go_ret
      exact ⟨ret_bool HR.out.symm, rfl⟩

theorem dval_int (n : Int) (h0 : 0 ≤ n) (h1 : n ≤ 255) : dgI (bOf n) = if 48 ≤ n ∧ n ≤ 57 then n - 48 else if 97 ≤ n ∧ n ≤ 102 then n - 97 + 10 else if 65 ≤ n ∧ n ≤ 70 then n - 65 + 10 else -1 :=
  byte_all (p := fun c n => dgI c = if 48 ≤ n ∧ n ≤ 57 then n - 48 else if 97 ≤ n ∧ n ≤ 102 then n - 97 + 10 else if 65 ≤ n ∧ n ≤ 70 then n - 65 + 10 else -1) (by decide +kernel) n h0 h1
set_option maxHeartbeats 400000 in
theorem refdigit_any (n : Int) (h0 : 0 ≤ n) (h1 : n ≤ 255) (w : World) :
    Calls Try.prog 98 #[.int .u8 n] w fun e w' => e = .returned (.int .i64 (dgI (bOf n))) ∧ w = w' := by
  have hl := hid (dval_int n h0 h1)
  have hD := isD_int n h0 h1
  obtain ⟨q, hq⟩ : ∃ q, isD (bOf n) = q := ⟨_, rfl⟩
  rw [hq] at hD
  have HD := hid hD
  have hcall := refDigit_any n h0 h1
  rw [hq] at hcall
  have Hcall := hid hcall
  clear hq hcall hD
  cases q with
  | true =>
    have hr : 48 ≤ n ∧ n ≤ 57 := by
      have := HD.out.symm
      rw [Bool.and_eq_true, decide_eq_true_iff, decide_eq_true_iff] at this; exact this
    go_enter Try.func98, Try.ntmps98
    go_wp2_with (go_at_call 67; refine (Hcall.out _).mono ?_; rintro e w1 ⟨rfl, rfl⟩)
    all_goals go_ret
    all_goals (refine ⟨ret_int ?_, rfl⟩; rw [hl.out, if_pos hr])
  | false =>
    have hr : ¬ (48 ≤ n ∧ n ≤ 57) := by
      intro h
      have := HD.out.symm
      rw [decide_eq_true h.1, decide_eq_true h.2] at this
      cases this
    go_enter Try.func98, Try.ntmps98
    go_wp2_with (go_at_call 67; refine (Hcall.out _).mono ?_; rintro e w1 ⟨rfl, rfl⟩)
    all_goals go_ret
    all_goals (refine ⟨ret_int ?_, rfl⟩; rw [hl.out, if_neg hr]; repeat' split; all_goals first | omega | rfl)
end Go.Proofs.Ytihgmgpcdodknaa
