import Derived.Test.YtihgmgpcdodknaaUnfP
import Derived.Test.YtihgmgpcdodknaaRepU
import Derived.Deep.QuietTactic
import Derived.BigQuiet
set_option linter.unusedVariables false
/- The pages' small words: Begins, Has, Digit, digit, Unhex of one octet, run, number. -/
namespace Go.Proofs.Ytihgmgpcdodknaa
open Go.RowKit

theorem hasB_snoc (l : List UInt8) (b c : UInt8) : hasB (l ++ [b]) c = (hasB l c || b == c) := by
  simp [hasB, List.contains_eq_mem]
  by_cases h : c ∈ l
  · simp [h]
  · by_cases h2 : b = c
    · simp [h2]
    · simp [h, h2, Ne.symm h2]

/-- a prefix? -/
def begL (p s : List UInt8) : Bool := p.isPrefixOf s
def dgI (c : UInt8) : Int := if isH c then (dval c : Int) else -1
theorem prefix_take (p s : List UInt8) (h : p.length ≤ s.length) : begL p s = decide (s.take p.length = p) := by
  unfold begL
  rw [Bool.eq_iff_iff, List.isPrefixOf_iff_prefix, decide_eq_true_iff]
  constructor
  · rintro ⟨r, rfl⟩; simp
  · intro e; exact ⟨s.drop p.length, by conv => lhs; lhs; rw [← e]
                                        exact List.take_append_drop _ _⟩
theorem prefix_long (p s : List UInt8) (h : ¬ p.length ≤ s.length) : begL p s = false := by
  unfold begL
  rw [Bool.eq_false_iff]
  intro e
  rw [List.isPrefixOf_iff_prefix] at e
  exact h e.length_le

set_option maxHeartbeats 800000 in
theorem begins_any (p s : ByteArray) (w : World) (hp : p.size ≤ 1099511627776) (hs : s.size ≤ 1099511627776) :
    Calls Try.prog 23 #[.string p, .string s] w fun e w' => e = .returned (.bool (begL p.data.toList s.data.toList)) ∧ w = w' := by
  have Hlp := hid (len_data p)
  have Hls := hid (len_data s)
  by_cases hl : (p.size : Int) ≤ s.size
  · have Hpt := hid (prefix_take p.data.toList s.data.toList (by rw [Hlp.out, Hls.out]; omega))
    obtain ⟨q, hq⟩ : ∃ q, ((s.extract 0 p.size).toList == p.toList) = q := ⟨_, rfl⟩
    have Hq := hid hq
    go_enter Try.func23, Try.ntmps23
    go_wp2
    all_goals go_ret
    all_goals
      refine ⟨ret_bool ?_, rfl⟩
      rw [Hpt.out, ← Hq.out, ByteArray.toList_eq, ByteArray.toList_eq, data_extract, List.drop_zero, Hlp.out]
      rw [Bool.eq_iff_iff]; simp
  · have Hpt := hid (prefix_long p.data.toList s.data.toList (by rw [Hlp.out, Hls.out]; omega))
    go_enter Try.func23, Try.ntmps23
    go_wp2
    all_goals go_ret
    all_goals (refine ⟨ret_bool ?_, rfl⟩; rw [Hpt.out])

theorem isD_int (n : Int) (h0 : 0 ≤ n) (h1 : n ≤ 255) : isD (bOf n) = (decide (48 ≤ n) && decide (n ≤ 57)) :=
  byte_all (p := fun c n => isD c = (decide (48 ≤ n) && decide (n ≤ 57))) (by decide +kernel) n h0 h1
set_option maxHeartbeats 400000 in
theorem refDigit_any (n : Int) (h0 : 0 ≤ n) (h1 : n ≤ 255) (w : World) :
    Calls Try.prog 67 #[.int .u8 n] w fun e w' => e = .returned (.bool (isD (bOf n))) ∧ w = w' := by
  have hl := hid (isD_int n h0 h1)
  go_enter Try.func67, Try.ntmps67
  go_wp2
  all_goals go_ret
  all_goals (refine ⟨ret_bool ?_, rfl⟩; rw [hl.out]; first | (simp [*]; done) | (simp; omega))

set_option maxHeartbeats 400000 in
theorem refHas_any (s : ByteArray) (n : Int) (w : World) (hs : s.size ≤ 1099511627776) (h0 : 0 ≤ n) (h1 : n ≤ 255) :
    Calls Try.prog 80 #[.string s, .int .u8 n] w fun e w' => e = .returned (.bool (hasB s.data.toList (bOf n))) ∧ w = w' := by
  have Hlen := hid (len_data s)
  go_enter Try.func80, Try.ntmps80
  go_wp2
  go_loopw [5] (fun i wr => ∃ k : Nat, k ≤ s.size ∧ i = .int .i64 k ∧ Hid (hasB (s.data.toList.take k) (bOf n) = false) ∧ wr = w) (fun i _ => s.size - (intOf i).toNat)
  case atStart => exact ⟨0, Nat.zero_le _, rfl, hid rfl, rfl⟩
  case round =>
    obtain ⟨k, hk, rfl, hr, rfl⟩ := hrel
    by_cases hlt : k < s.size
    · have hkl : k < s.data.toList.length := by rw [Hlen.out]; exact hlt
      obtain ⟨x, hx⟩ : ∃ x, s[k]'hlt = x := ⟨_, rfl⟩
      have Hst : Hid (hasB (s.data.toList.take (k + 1)) (bOf n) = (x == bOf n)) := hid (by
        rw [take_one _ k hkl, hasB_snoc, hr.out, data_get s k hlt hkl, hx]; rfl)
      have Hmem : Hid (x ∈ s.data.toList) := hid (by rw [← hx, ← data_get s k hlt hkl]; exact List.getElem_mem _)
      obtain ⟨m, hm⟩ : ∃ m : Int, ((s[k]'hlt).toNat : Int) = m := ⟨_, rfl⟩
      have hm0 : 0 ≤ m ∧ m ≤ 255 := by have := (s[k]'hlt).toNat_lt; omega
      have Heq : Hid ((m = n) ↔ x = bOf n) := hid (by
        rw [← bOf_eq m n hm0.1 hm0.2 h0 h1, ← hm, bOf_cast, hx])
      clear hx
      by_cases hmn : m = n
      · subst hmn
        go_wp2
        go_ret
        refine ⟨ret_bool ?_, rfl⟩
        rw [← Heq.out.mp (by first | trivial | rfl), hasB_true Hmem.out]
      · have hne : (m == n) = false := beq_eq_false_iff_ne.2 hmn
        have Hx : Hid ((x == bOf n) = false) := hid (beq_eq_false_iff_ne.2 (fun e => hmn (Heq.out.mpr e)))
        go_wp2
        go_roundw
        case rel => exact ⟨k + 1, by omega, by go_num, hid (by rw [Hst.out, Hx.out]), by first | trivial | rfl⟩
        case measure => simp [intOf]; omega
    · obtain rfl : k = s.size := by omega
      have hr2 := hr.out
      rw [take_all] at hr2
      have HR := hid hr2
      clear hr2
      go_wp2
      go_ret
      exact ⟨ret_bool HR.out.symm, rfl⟩

theorem dval_int (n : Int) (h0 : 0 ≤ n) (h1 : n ≤ 255) : dgI (bOf n) = if 48 ≤ n ∧ n ≤ 57 then n - 48 else if 97 ≤ n ∧ n ≤ 102 then n - 97 + 10 else if 65 ≤ n ∧ n ≤ 70 then n - 65 + 10 else -1 :=
  byte_all (p := fun c n => dgI c = if 48 ≤ n ∧ n ≤ 57 then n - 48 else if 97 ≤ n ∧ n ≤ 102 then n - 97 + 10 else if 65 ≤ n ∧ n ≤ 70 then n - 65 + 10 else -1) (by decide +kernel) n h0 h1
set_option maxHeartbeats 400000 in
theorem refdigit_any (n : Int) (h0 : 0 ≤ n) (h1 : n ≤ 255) (w : World) :
    Calls Try.prog 98 #[.int .u8 n] w fun e w' => e = .returned (.int .i64 (dgI (bOf n))) ∧ w = w' := by
  have hl := hid (dval_int n h0 h1)
  have hD := isD_int n h0 h1
  obtain ⟨q, hq⟩ : ∃ q, isD (bOf n) = q := ⟨_, rfl⟩
  rw [hq] at hD
  have HD := hid hD
  have hcall := refDigit_any n h0 h1
  rw [hq] at hcall
  have Hcall := hid hcall
  clear hq hcall hD
  cases q with
  | true =>
    have hr : 48 ≤ n ∧ n ≤ 57 := by
      have := HD.out.symm
      rw [Bool.and_eq_true, decide_eq_true_iff, decide_eq_true_iff] at this; exact this
    go_enter Try.func98, Try.ntmps98
    go_wp2_with (go_at_call 67; refine (Hcall.out _).mono ?_; rintro e w1 ⟨rfl, rfl⟩)
    all_goals go_ret
    all_goals (refine ⟨ret_int ?_, rfl⟩; rw [hl.out, if_pos hr])
  | false =>
    have hr : ¬ (48 ≤ n ∧ n ≤ 57) := by
      intro h
      have := HD.out.symm
      rw [decide_eq_true h.1, decide_eq_true h.2] at this
      cases this
    go_enter Try.func98, Try.ntmps98
    go_wp2_with (go_at_call 67; refine (Hcall.out _).mono ?_; rintro e w1 ⟨rfl, rfl⟩)
    all_goals go_ret
    all_goals (refine ⟨ret_int ?_, rfl⟩; rw [hl.out, if_neg hr]; repeat' split; all_goals first | omega | rfl)
end Go.Proofs.Ytihgmgpcdodknaa
/- The pages' run, Unhex of one octet, number, One, Decode, Escape, Clean, Unfinished; refs.Unfinished. -/
namespace Go.Proofs.Ytihgmgpcdodknaa
open Go.RowKit

def hexLetters : List UInt8 := [97, 98, 99, 100, 101, 102, 65, 66, 67, 68, 69, 70]
theorem isH_int (n : Int) (h0 : 0 ≤ n) (h1 : n ≤ 255) : isH (bOf n) = (isD (bOf n) || hasB hexLetters (bOf n)) :=
  byte_all (p := fun c n => isH c = (isD c || hasB hexLetters c)) (by decide +kernel) n h0 h1
def runL (s : List UInt8) (a : Nat) (hex : Bool) : Nat := ((s.drop a).takeWhile (digP hex)).length
theorem run_all (s : List UInt8) (a k : Nat) (hex : Bool) (h : ((s.drop a).take k).all (digP hex) = true) (hk : a + k ≤ s.length) : k ≤ runL s a hex := by
  unfold runL
  have e := List.take_append_drop k (s.drop a)
  rw [← e, List.takeWhile_append_of_pos (fun c hc => List.all_eq_true.1 h c hc), List.length_append, List.length_take, List.length_drop]
  omega
theorem run_stop (s : List UInt8) (a k : Nat) (hex : Bool) (h : ((s.drop a).take k).all (digP hex) = true) (hk : a + k < s.length) (hn : digP hex s[a + k] = false) : runL s a hex = k := by
  unfold runL
  have e := List.take_append_drop k (s.drop a)
  have hd : (s.drop a).drop k = s[a + k] :: s.drop (a + k + 1) := by rw [List.drop_drop, List.drop_eq_getElem_cons hk]
  rw [← e, hd, takeWhile_stop _ _ _ _ h hn, List.length_take, List.length_drop]
  omega
theorem run_end (s : List UInt8) (a k : Nat) (hex : Bool) (h : ((s.drop a).take k).all (digP hex) = true) (hk : a + k = s.length) : runL s a hex = k := by
  have h1 := run_all s a k hex h (by omega)
  have h2 : runL s a hex ≤ (s.drop a).length := by
    unfold runL
    have := (takeWhile_split (digP hex) (s.drop a)).1
    have := congrArg List.length this
    rw [List.length_append] at this
    omega
  rw [List.length_drop] at h2
  omega

set_option maxRecDepth 100000 in
set_option maxHeartbeats 800000 in
theorem run_any (s : ByteArray) (a : Nat) (hex : Bool) (w : World) (hs : s.size ≤ 1099511627776) (ha : a ≤ s.size) :
    Calls Try.prog 64 #[.string s, .int .i64 (a : Int), .bool hex] w fun e w' => e = .returned (.int .i64 (runL s.data.toList a hex : Nat)) ∧ w = w' := by
  have Hlen := hid (len_data s)
  go_enter Try.func64, Try.ntmps64
  go_wp2
  go_loopw [7] (fun i wr => ∃ k : Nat, a + k ≤ s.size ∧ i = .int .i64 k ∧ Hid (((s.data.toList.drop a).take k).all (digP hex) = true) ∧ wr = w) (fun i _ => s.size - (intOf i).toNat)
  case atStart => exact ⟨0, by omega, rfl, hid (by simp), rfl⟩
  case round =>
    obtain ⟨k, hk, rfl, hr, rfl⟩ := hrel
    by_cases hlt : a + k < s.size
    · have hkl : a + k < s.data.toList.length := by rw [Hlen.out]; exact hlt
      obtain ⟨x, hx⟩ : ∃ x, s[a + k]'hlt = x := ⟨_, rfl⟩
      obtain ⟨m, hm⟩ : ∃ m : Int, ((s[a + k]'hlt).toNat : Int) = m := ⟨_, rfl⟩
      have hm0 : 0 ≤ m ∧ m ≤ 255 := by have := (s[a + k]'hlt).toNat_lt; omega
      have hbm : bOf m = x := by rw [← hm, bOf_cast, hx]
      have hi := isH_int m hm0.1 hm0.2
      have hD := refDigit_any m hm0.1 hm0.2
      have hH := fun w => refHas_any ⟨#[97, 98, 99, 100, 101, 102, 65, 66, 67, 68, 69, 70]⟩ m w (by simp [ByteArray.size]) hm0.1 hm0.2
      rw [hbm] at hi hD
      obtain ⟨d, hd⟩ : ∃ d, isD x = d := ⟨_, rfl⟩
      obtain ⟨q, hq⟩ : ∃ q, hasB hexLetters x = q := ⟨_, rfl⟩
      have hq2 : hasB (⟨#[97, 98, 99, 100, 101, 102, 65, 66, 67, 68, 69, 70]⟩ : ByteArray).data.toList (bOf m) = q := by rw [hbm]; exact hq
      rw [hd] at hD
      simp only [hq2] at hH
      rw [hd, hq] at hi
      have HD := hid hD
      have HH := hid hH
      have HP : Hid (digP hex x = (d || (hex && q))) := hid (by
        unfold digP
        cases hex with
        | true => rw [if_pos rfl, hi]; simp
        | false => rw [if_neg (by simp), hd]; simp)
      have hsx : s.data.toList[a + k] = x := by rw [data_get s (a + k) hlt hkl]; exact hx
      have Hstop := hid (fun h => run_stop s.data.toList a k hex hr.out hkl h)
      rw [hsx] at Hstop
      have Hst : Hid (digP hex x = true → ((s.data.toList.drop a).take (k + 1)).all (digP hex) = true) := hid (fun h => by
        have hdl : k < (s.data.toList.drop a).length := by rw [List.length_drop]; omega
        rw [take_one _ k hdl, all_snoc, hr.out, List.getElem_drop, hsx, h]; rfl)
      clear hi hD hH hd hq hq2 hbm hx hsx
      cases d with
      | true =>
        go_wp2_with (go_at_call 67; refine (HD.out _).mono ?_; rintro e w1 ⟨rfl, rfl⟩)
        go_roundw
        case rel => exact ⟨k + 1, by omega, by go_num, hid (Hst.out (by rw [HP.out]; rfl)), by first | trivial | rfl⟩
        case measure => simp [intOf]; omega
      | false =>
        cases hex with
        | false =>
          go_wp2_with (go_at_call 67; refine (HD.out _).mono ?_; rintro e w1 ⟨rfl, rfl⟩)
          go_ret
          exact ⟨ret_int (by rw [Hstop.out (by rw [HP.out]; rfl)]), rfl⟩
        | true =>
          cases q with
          | true =>
            go_wp2_with (first | (go_at_call 67; refine (HD.out _).mono ?_; rintro e w1 ⟨rfl, rfl⟩) | (go_at_call 80; refine (HH.out _).mono ?_; rintro e w1 ⟨rfl, rfl⟩))
            go_roundw
            case rel => exact ⟨k + 1, by omega, by go_num, hid (Hst.out (by rw [HP.out]; rfl)), by first | trivial | rfl⟩
            case measure => simp [intOf]; omega
          | false =>
            go_wp2_with (first | (go_at_call 67; refine (HD.out _).mono ?_; rintro e w1 ⟨rfl, rfl⟩) | (go_at_call 80; refine (HH.out _).mono ?_; rintro e w1 ⟨rfl, rfl⟩))
            go_ret
            exact ⟨ret_int (by rw [Hstop.out (by rw [HP.out]; rfl)]), rfl⟩
    · have he := run_end s.data.toList a k hex hr.out (by rw [Hlen.out]; omega)
      have HE := hid he
      clear he
      go_wp2
      go_ret
      exact ⟨ret_int (by rw [HE.out]), rfl⟩

set_option maxRecDepth 100000 in
set_option maxHeartbeats 800000 in
/-- Unhex of one octet -/
theorem refUnhex1_any (s : ByteArray) (c : UInt8) (w : World) (hs : s.data.toList = [c]) (hc : isH c = true) :
    Calls Try.prog 81 #[.string s] w fun e w' => e = .returned (.tuple #[.int .i64 (dval c : Int), .int .i64 0]) ∧ w = w' := by
  have hsz : s.size = 1 := by rw [← len_data, hs]; rfl
  have hpos : 0 < s.size := by omega
  have hsx : s[0]'hpos = c := by rw [← data_get s 0 hpos (by rw [hs]; simp)]; simp [hs]
  have hemp : s.toList.isEmpty = false := by rw [ByteArray.toList_eq, hs]; rfl
  obtain ⟨m, hm⟩ : ∃ m : Int, ((s[0]'hpos).toNat : Int) = m := ⟨_, rfl⟩
  have hm0 : 0 ≤ m ∧ m ≤ 255 := by have := (s[0]'hpos).toNat_lt; omega
  have hbm : bOf m = c := by rw [← hm, bOf_cast, hsx]
  have hd := refdigit_any m hm0.1 hm0.2
  have hdg : dgI (bOf m) = (dval c : Int) := by rw [hbm]; unfold dgI; rw [if_pos hc]
  rw [hdg] at hd
  obtain ⟨d, hdd⟩ : ∃ d : Int, (dval c : Int) = d := ⟨_, rfl⟩
  have hd0 : 0 ≤ d ∧ d < 16 := by have := dval_lt c hc; omega
  rw [hdd] at hd ⊢
  have HD := hid hd
  obtain rfl : s = ⟨#[c]⟩ := bytes_eq hs
  have hs0 : (⟨#[c]⟩ : ByteArray).size = 1 := rfl
  clear hd hdg hdd hbm hsx hs hc
  go_enter Try.func81, Try.ntmps81
  go_wp2
  go_loopw [4, 5] (fun q i wr => ((q = .int .i64 0 ∧ i = .int .i64 0) ∨ (q = .int .i64 d ∧ i = .int .i64 1)) ∧ wr = w) (fun _ i _ => 1 - (intOf i).toNat)
  case atStart => exact ⟨.inl ⟨rfl, rfl⟩, rfl⟩
  case round =>
    obtain ⟨⟨rfl, rfl⟩ | ⟨rfl, rfl⟩, rfl⟩ := hrel
    · go_wp2_with (go_at_call 98; refine (HD.out _).mono ?_; rintro e w1 ⟨rfl, rfl⟩)
      go_roundw
      case rel => exact ⟨.inr ⟨by go_num, by go_num⟩, by first | trivial | rfl⟩
      case measure => simp [intOf]
    · go_wp2
      go_ret2
      exact ⟨rfl, rfl⟩
end Go.Proofs.Ytihgmgpcdodknaa
/- The pages' number, One. -/
namespace Go.Proofs.Ytihgmgpcdodknaa
open Go.RowKit

set_option maxRecDepth 100000 in
set_option maxHeartbeats 800000 in
theorem number_any (s : ByteArray) (hex : Bool) (w : World) (h2 : s.size ≤ 7) (hd : s.data.toList.all isH = true) :
    Calls Try.prog 65 #[.string s, .int .i64 (baseN hex : Int)] w fun e w' => e = .returned (.int .i64 (valN (baseN hex) s.data.toList)) ∧ w = w' := by
  have Hlen := hid (len_data s)
  have Hd := hid hd
  obtain ⟨b, hb⟩ : ∃ b, baseN hex = b := ⟨_, rfl⟩
  have hb16 : b = 10 ∨ b = 16 := by rw [← hb]; cases hex <;> simp [baseN]
  rw [hb]
  obtain ⟨z, hz⟩ : ∃ z : Int, (b : Int) = z := ⟨_, rfl⟩
  have hz16 : z = 10 ∨ z = 16 := by omega
  have Hz := hid hz
  rw [hz]
  clear hd hb hz
  go_enter Try.func65, Try.ntmps65
  go_wp2
  go_loopw [5, 6] (fun q i wr => ∃ k : Nat, ∃ v : Int, k ≤ s.size ∧ i = .int .i64 k ∧ q = .int .i64 v ∧ Hid (v = valN b (s.data.toList.take k)) ∧ 0 ≤ v ∧ v < 536870912 ∧ wr = w) (fun _ i _ => s.size - (intOf i).toNat)
  case atStart => exact ⟨0, 0, Nat.zero_le _, rfl, rfl, hid rfl, by omega, by omega, rfl⟩
  case round =>
    obtain ⟨k, v, hk, rfl, rfl, hv, hv0, hv1, rfl⟩ := hrel
    by_cases hlt : k < s.size
    · have hkl : k < s.data.toList.length := by rw [Hlen.out]; exact hlt
      obtain ⟨c, hc⟩ : ∃ c, s.data.toList[k] = c := ⟨_, rfl⟩
      have hH : isH c = true := List.all_eq_true.1 Hd.out c (by rw [← hc]; exact List.getElem_mem _)
      have hex1 : (s.extract k (k + 1)).data.toList = [c] := by
        rw [data_extract, take_one _ k hkl, hc, List.drop_append_of_le_length (by rw [List.length_take]; omega), List.drop_of_length_le (by rw [List.length_take]; omega)]; rfl
      have HU := hid (fun w => refUnhex1_any (s.extract k (k + 1)) c w hex1 hH)
      have hdl := dval_lt c hH
      obtain ⟨d, hdd⟩ : ∃ d : Int, (dval c : Int) = d := ⟨_, rfl⟩
      have Hdd := hid hdd
      have hd0 : 0 ≤ d ∧ d < 16 := by omega
      have Hst : Hid (((valN b (s.data.toList.take (k + 1)) : Nat) : Int) = v * z + d) := hid (by
        rw [take_one _ k hkl, valN_snoc, hc, hv.out, ← hdd, ← Hz.out]; push_cast; rfl)
      have HvB : Hid (k + 1 ≤ 7 → v * z + d < 536870912) := hid (fun _ => by
        have hall : ∀ c ∈ s.data.toList.take (k + 1), dval c < 16 := fun c hc => dval_lt c (List.all_eq_true.1 Hd.out c (List.mem_of_mem_take hc))
        have hl : (s.data.toList.take (k + 1)).length = k + 1 := by rw [List.length_take, Hlen.out]; omega
        have := valN_lt b (by omega) (k + 1) _ hl hall
        have h7 : 16 ^ (k + 1) ≤ 16 ^ 7 := Nat.pow_le_pow_right (by omega) (by omega)
        have := Hst.out
        omega)
      clear hc hH hex1 hdl hdd
      rcases hz16 with rfl | rfl
      all_goals
        go_wp2_with fail
        refine (HU.out _).mono ?_
        rintro e w1 ⟨rfl, rfl⟩
        rw [Hdd.out]
        go_wp2
        go_roundw
        case rel => exact ⟨k + 1, _, by omega, by go_num, rfl, hid Hst.out.symm, by omega, HvB.out (by omega), by first | trivial | rfl⟩
        case measure => simp [intOf]; omega
    · obtain rfl : k = s.size := by omega
      have hv' := hv.out
      rw [take_all] at hv'
      subst hv'
      go_wp2
      go_ret
      exact ⟨rfl, rfl⟩
end Go.Proofs.Ytihgmgpcdodknaa
/- The pages' One. -/
namespace Go.Proofs.Ytihgmgpcdodknaa
open Go.RowKit

def nameAt (k : Nat) : List UInt8 := match k with | 0 => [38, 97, 109, 112, 59] | 1 => [38, 108, 116, 59] | 2 => [38, 103, 116, 59] | 3 => [38, 113, 117, 111, 116, 59] | _ => [38, 97, 112, 111, 115, 59]
theorem namedL_none (s : List UInt8) (h : ∀ k, k < 5 → begL (nameAt k) s = false) : namedL s = none := by
  have h0 := h 0 (by omega)
  have h1 := h 1 (by omega)
  have h2 := h 2 (by omega)
  have h3 := h 3 (by omega)
  have h4 := h 4 (by omega)
  unfold begL nameAt at h0 h1 h2 h3 h4
  unfold namedL
  rw [Option.map_eq_none_iff, List.find?_eq_none]
  intro p hp
  simp only [names, List.mem_cons, List.not_mem_nil, or_false] at hp
  rcases hp with rfl | rfl | rfl | rfl | rfl <;> simp only [List.cons_append, List.nil_append] <;> simp_all
theorem beg_one (s : List UInt8) (k : Nat) (p : List UInt8 × UInt8) (hp : p ∈ names) (e : nameAt k = 38 :: (p.1 ++ [59])) (h : begL (nameAt k) s = true) : oneR s = ([p.2], p.1.length + 2) := by
  unfold begL at h
  rw [List.isPrefixOf_iff_prefix] at h
  obtain ⟨r, hr⟩ := h
  rw [← hr, e, mtch_one _ _ r (.inl ⟨p, hp, rfl, rfl⟩)]
  simp
theorem numL_other (s : List UInt8) (h : begL [38, 35] s = false) : numL s = ([], 0) := by
  unfold numL
  split
  · simp [begL, List.isPrefixOf] at h
  · rfl
/-- the tail: digits from a place on -/
theorem numT_run (l : List UInt8) (a : Nat) (hex : Bool) : numT hex (l.drop a) = if 1 ≤ runL l a hex ∧ runL l a hex ≤ 7 ∧ l[a + runL l a hex]? = some 59 then some (chrOf (valN (baseN hex) ((l.drop a).take (runL l a hex))), runL l a hex + 1) else none := by
  have hs := (takeWhile_split (digP hex) (l.drop a)).1
  have e : (l.drop a).take (runL l a hex) = (l.drop a).takeWhile (digP hex) := by
    conv => lhs; rw [hs]
    unfold runL
    rw [List.take_left]
  unfold numT
  rw [e, List.getElem?_drop]
  rfl
theorem run_digits (l : List UInt8) (a : Nat) (hex : Bool) : ((l.drop a).take (runL l a hex)).all (digP hex) = true := by
  have hs := takeWhile_split (digP hex) (l.drop a)
  have e : (l.drop a).take (runL l a hex) = (l.drop a).takeWhile (digP hex) := by
    conv => lhs; rw [hs.1]
    unfold runL
    rw [List.take_left]
  rw [e]; exact hs.2
theorem run_le (l : List UInt8) (a : Nat) (hex : Bool) : runL l a hex ≤ l.length - a := by
  have hs := (takeWhile_split (digP hex) (l.drop a)).1
  have := congrArg List.length hs
  rw [List.length_append, List.length_drop] at this
  unfold runL; omega
theorem digP_isH (hex : Bool) (c : UInt8) (h : digP hex c = true) : isH c = true := by
  unfold digP at h
  cases hex with
  | true => exact h
  | false => unfold isH; rw [show isD c = true from h]; rfl

set_option maxRecDepth 100000 in
set_option maxHeartbeats 3200000 in
theorem refOne_any (s : ByteArray) (w : World) (hs : s.size ≤ 1099511627776) :
    Calls Try.prog 43 #[.string s] w (RStrInt w (oneR s.data.toList).1 ((oneR s.data.toList).2 : Int)) := by
  have Hlen := hid (len_data s)
  have HBE := hid (fun (p : ByteArray) (hp : p.size ≤ 1099511627776) (w : World) => begins_any p s w hp hs)
  go_enter Try.func43, Try.ntmps43
  go_wp2
  go_loopw [5] (fun i wr => ∃ k : Nat, k ≤ 5 ∧ i = .int .i64 k ∧ Hid (∀ j, j < k → begL (nameAt j) s.data.toList = false) ∧ wr = w.alloc (.cells #[.string ⟨#[38, 97, 109, 112, 59]⟩, .string ⟨#[38, 108, 116, 59]⟩, .string ⟨#[38, 103, 116, 59]⟩, .string ⟨#[38, 113, 117, 111, 116, 59]⟩, .string ⟨#[38, 97, 112, 111, 115, 59]⟩] 9)) (fun i _ => 5 - (intOf i).toNat)
  case atStart => exact ⟨0, by omega, rfl, hid (fun j h => absurd h (by omega)), rfl⟩
  case round =>
    obtain ⟨k, hk, rfl, hr, rfl⟩ := hrel
    rcases (show k = 0 ∨ k = 1 ∨ k = 2 ∨ k = 3 ∨ k = 4 ∨ k = 5 by omega) with rfl | rfl | rfl | rfl | rfl | rfl
    · go_wp2_with fail
      refine (HBE.out _ (by simp [ByteArray.size]) _).mono ?_
      rintro e w1 ⟨rfl, rfl⟩
      obtain ⟨q, hq⟩ : ∃ q, begL (⟨#[38, 97, 109, 112, 59]⟩ : ByteArray).data.toList s.data.toList = q := ⟨_, rfl⟩
      rw [hq]
      have Hq := hid hq
      clear hq
      cases q with
      | true =>
        have HO := hid (beg_one s.data.toList 0 ([97, 109, 112], 38) (by simp [names]) rfl Hq.out)
        go_wp2_with (go_quiet (fail))
        go_ret2
        exact ⟨_, _, rfl, hid (by rw [HO.out]; rfl), hid (by rw [HO.out]; rfl), below_drewN (by go_grown) _⟩
      | false =>
        go_wp2
        go_roundw
        case rel =>
          refine ⟨0 + 1, by omega, by go_num, hid (fun j h => ?_), by first | trivial | rfl⟩
          rcases Nat.lt_or_ge j 0 with hj | hj
          · exact hr.out j hj
          · obtain rfl : j = 0 := by omega
            exact Hq.out
        case measure => simp [intOf]
    · go_wp2_with fail
      refine (HBE.out _ (by simp [ByteArray.size]) _).mono ?_
      rintro e w1 ⟨rfl, rfl⟩
      obtain ⟨q, hq⟩ : ∃ q, begL (⟨#[38, 108, 116, 59]⟩ : ByteArray).data.toList s.data.toList = q := ⟨_, rfl⟩
      rw [hq]
      have Hq := hid hq
      clear hq
      cases q with
      | true =>
        have HO := hid (beg_one s.data.toList 1 ([108, 116], 60) (by simp [names]) rfl Hq.out)
        go_wp2_with (go_quiet (fail))
        go_ret2
        exact ⟨_, _, rfl, hid (by rw [HO.out]; rfl), hid (by rw [HO.out]; rfl), below_drewN (by go_grown) _⟩
      | false =>
        go_wp2
        go_roundw
        case rel =>
          refine ⟨1 + 1, by omega, by go_num, hid (fun j h => ?_), by first | trivial | rfl⟩
          rcases Nat.lt_or_ge j 1 with hj | hj
          · exact hr.out j hj
          · obtain rfl : j = 1 := by omega
            exact Hq.out
        case measure => simp [intOf]
    · go_wp2_with fail
      refine (HBE.out _ (by simp [ByteArray.size]) _).mono ?_
      rintro e w1 ⟨rfl, rfl⟩
      obtain ⟨q, hq⟩ : ∃ q, begL (⟨#[38, 103, 116, 59]⟩ : ByteArray).data.toList s.data.toList = q := ⟨_, rfl⟩
      rw [hq]
      have Hq := hid hq
      clear hq
      cases q with
      | true =>
        have HO := hid (beg_one s.data.toList 2 ([103, 116], 62) (by simp [names]) rfl Hq.out)
        go_wp2_with (go_quiet (fail))
        go_ret2
        exact ⟨_, _, rfl, hid (by rw [HO.out]; rfl), hid (by rw [HO.out]; rfl), below_drewN (by go_grown) _⟩
      | false =>
        go_wp2
        go_roundw
        case rel =>
          refine ⟨2 + 1, by omega, by go_num, hid (fun j h => ?_), by first | trivial | rfl⟩
          rcases Nat.lt_or_ge j 2 with hj | hj
          · exact hr.out j hj
          · obtain rfl : j = 2 := by omega
            exact Hq.out
        case measure => simp [intOf]
    · go_wp2_with fail
      refine (HBE.out _ (by simp [ByteArray.size]) _).mono ?_
      rintro e w1 ⟨rfl, rfl⟩
      obtain ⟨q, hq⟩ : ∃ q, begL (⟨#[38, 113, 117, 111, 116, 59]⟩ : ByteArray).data.toList s.data.toList = q := ⟨_, rfl⟩
      rw [hq]
      have Hq := hid hq
      clear hq
      cases q with
      | true =>
        have HO := hid (beg_one s.data.toList 3 ([113, 117, 111, 116], 34) (by simp [names]) rfl Hq.out)
        go_wp2_with (go_quiet (fail))
        go_ret2
        exact ⟨_, _, rfl, hid (by rw [HO.out]; rfl), hid (by rw [HO.out]; rfl), below_drewN (by go_grown) _⟩
      | false =>
        go_wp2
        go_roundw
        case rel =>
          refine ⟨3 + 1, by omega, by go_num, hid (fun j h => ?_), by first | trivial | rfl⟩
          rcases Nat.lt_or_ge j 3 with hj | hj
          · exact hr.out j hj
          · obtain rfl : j = 3 := by omega
            exact Hq.out
        case measure => simp [intOf]
    · go_wp2_with fail
      refine (HBE.out _ (by simp [ByteArray.size]) _).mono ?_
      rintro e w1 ⟨rfl, rfl⟩
      obtain ⟨q, hq⟩ : ∃ q, begL (⟨#[38, 97, 112, 111, 115, 59]⟩ : ByteArray).data.toList s.data.toList = q := ⟨_, rfl⟩
      rw [hq]
      have Hq := hid hq
      clear hq
      cases q with
      | true =>
        have HO := hid (beg_one s.data.toList 4 ([97, 112, 111, 115], 39) (by simp [names]) rfl Hq.out)
        go_wp2_with (go_quiet (fail))
        go_ret2
        exact ⟨_, _, rfl, hid (by rw [HO.out]; rfl), hid (by rw [HO.out]; rfl), below_drewN (by go_grown) _⟩
      | false =>
        go_wp2
        go_roundw
        case rel =>
          refine ⟨4 + 1, by omega, by go_num, hid (fun j h => ?_), by first | trivial | rfl⟩
          rcases Nat.lt_or_ge j 4 with hj | hj
          · exact hr.out j hj
          · obtain rfl : j = 4 := by omega
            exact Hq.out
        case measure => simp [intOf]
    · have HN := hid (namedL_none s.data.toList hr.out)
      have HO1 : Hid (oneR s.data.toList = numL s.data.toList) := hid (by unfold oneR; rw [HN.out])
      have hbw : Below w.heap.size w (w.alloc (.cells #[.string ⟨#[38, 97, 109, 112, 59]⟩, .string ⟨#[38, 108, 116, 59]⟩, .string ⟨#[38, 103, 116, 59]⟩, .string ⟨#[38, 113, 117, 111, 116, 59]⟩, .string ⟨#[38, 97, 112, 111, 115, 59]⟩] 9)) := by go_grown
      obtain ⟨W, hW⟩ : ∃ W, w.alloc (.cells #[.string ⟨#[38, 97, 109, 112, 59]⟩, .string ⟨#[38, 108, 116, 59]⟩, .string ⟨#[38, 103, 116, 59]⟩, .string ⟨#[38, 113, 117, 111, 116, 59]⟩, .string ⟨#[38, 97, 112, 111, 115, 59]⟩] 9) = W := ⟨_, rfl⟩
      rw [hW] at hbw ⊢
      clear hW
      go_wp2_with fail
      refine (HBE.out _ (by simp [ByteArray.size]) _).mono ?_
      rintro e w1 ⟨rfl, rfl⟩
      obtain ⟨q, hq⟩ : ∃ q, begL (⟨#[38, 35]⟩ : ByteArray).data.toList s.data.toList = q := ⟨_, rfl⟩
      rw [hq]
      have Hq := hid hq
      clear hq
      cases q with
      | false =>
        have HO := hid (numL_other s.data.toList Hq.out)
        go_wp2
        go_ret2
        exact ⟨_, _, rfl, hid (by rw [HO1.out, HO.out]), hid (by rw [HO1.out, HO.out]; rfl), hbw⟩
      | true =>
        obtain ⟨t, ht⟩ : ∃ t, s.data.toList = 38 :: 35 :: t := by
          have := Hq.out
          unfold begL at this
          rw [List.isPrefixOf_iff_prefix] at this
          obtain ⟨r, hr⟩ := this
          exact ⟨r, hr.symm⟩
        have hsz2 : s.size = t.length + 2 := by rw [← Hlen.out, ht]; simp
        have Ht := hid ht
        cases t with
        | nil =>
          have hR : runL s.data.toList 2 false = 0 := by rw [ht]; rfl
          have hrun := fun w => run_any s 2 false w hs (by rw [hsz2]; simp)
          rw [hR] at hrun
          have Hrun := hid hrun
          have hsz3 : (s.size : Int) = 2 := by rw [hsz2]; rfl
          clear hrun hR ht hsz2
          go_wp2_with (go_at_call 64; refine (Hrun.out _).mono ?_; rintro e w1 ⟨rfl, rfl⟩)
          go_ret2
          exact ⟨_, _, rfl, hid (by rw [HO1.out, Ht.out]; rfl), hid (by rw [HO1.out, Ht.out]; rfl), hbw⟩
        | cons c u =>
          have hsz3 : 2 < s.size := by rw [hsz2]; simp
          clear hsz2
          have hsc : s[2]'hsz3 = c := by rw [← data_get s 2 hsz3 (by rw [Hlen.out]; exact hsz3)]; simp [ht]
          obtain ⟨m, hm⟩ : ∃ m : Int, ((s[2]'hsz3).toNat : Int) = m := ⟨_, rfl⟩
          have hm0 : 0 ≤ m ∧ m ≤ 255 := by have := (s[2]'hsz3).toNat_lt; omega
          have hX : isX c = ((m == 120) || (m == 88)) := by
            have := byte_all (p := fun c n => isX c = ((n == 120) || (n == 88))) (by decide +kernel) m hm0.1 hm0.2
            rw [← hm, bOf_cast, hm, hsc] at this; exact this
          cases hx : isX c with
          | true =>
            rw [hx] at hX
            have HX := hid hx
            have hmx : m = 120 ∨ m = 88 := by
              have := hX.symm
              rw [Bool.or_eq_true, beq_iff_eq, beq_iff_eq] at this; exact this
            clear hX hsc ht hx
            rcases hmx with rfl | rfl
            · have hdrop : s.data.toList.drop 3 = u := by rw [Ht.out]; rfl
              have hnum : oneR s.data.toList = (match numT true (s.data.toList.drop 3) with | some (x, k) => (x, k + 3) | none => ([], 0)) := by
                rw [HO1.out, hdrop, Ht.out]; simp only [numL]; rw [HX.out]; rfl
              have HNum := hid hnum
              have HT := hid (numT_run s.data.toList 3 true)
              have Hdig := hid (run_digits s.data.toList 3 true)
              have hrl := run_le s.data.toList 3 true
              rw [Hlen.out] at hrl
              have hrun := fun w => run_any s 3 true w hs (by omega)
              obtain ⟨n, hn⟩ : ∃ n, runL s.data.toList 3 true = n := ⟨_, rfl⟩
              rw [hn] at hrl HT Hdig
              simp only [hn] at hrun
              have Hrun := hid hrun
              clear hn hrun hdrop hnum
              by_cases hn0 : n = 0
              · subst hn0
                have HO : Hid (oneR s.data.toList = ([], 0)) := hid (by rw [HNum.out, HT.out, if_neg (by omega)])
                go_wp2_with (go_at_call 64; refine (Hrun.out _).mono ?_; rintro e w1 ⟨rfl, rfl⟩)
                go_ret2
                exact ⟨_, _, rfl, hid (by rw [HO.out]), hid (by rw [HO.out]; rfl), hbw⟩
              by_cases hn7 : 7 < n
              · have HO : Hid (oneR s.data.toList = ([], 0)) := hid (by rw [HNum.out, HT.out, if_neg (by omega)])
                go_wp2_with (go_at_call 64; refine (Hrun.out _).mono ?_; rintro e w1 ⟨rfl, rfl⟩)
                go_ret2
                exact ⟨_, _, rfl, hid (by rw [HO.out]), hid (by rw [HO.out]; rfl), hbw⟩
              by_cases hend : s.size ≤ 3 + n
              · have HO : Hid (oneR s.data.toList = ([], 0)) := hid (by
                  rw [HNum.out, HT.out, if_neg]
                  rintro ⟨_, _, h⟩
                  rw [List.getElem?_eq_none (by rw [Hlen.out]; exact hend)] at h; cases h)
                go_wp2_with (go_at_call 64; refine (Hrun.out _).mono ?_; rintro e w1 ⟨rfl, rfl⟩)
                go_ret2
                exact ⟨_, _, rfl, hid (by rw [HO.out]), hid (by rw [HO.out]; rfl), hbw⟩
              have hlt : 3 + n < s.size := by omega
              have hdl : 3 + n < s.data.toList.length := by rw [Hlen.out]; exact hlt
              obtain ⟨y, hy⟩ : ∃ y : Int, ((s[3 + n]'hlt).toNat : Int) = y := ⟨_, rfl⟩
              have hget : Hid (s.data.toList[3 + n]? = some (s[3 + n]'hlt)) := hid (by rw [List.getElem?_eq_getElem hdl, data_get s (3 + n) hlt hdl])
              by_cases hy59 : y = 59
              · subst hy59
                have hg2 : s.data.toList[3 + n]? = some 59 := by
                  rw [hget.out]; congr 1
                  exact UInt8.toNat_inj.1 (by have : (59 : UInt8).toNat = 59 := rfl; omega)
                have HO : Hid (oneR s.data.toList = (chrOf (valN (baseN true) ((s.data.toList.drop 3).take n)), n + 1 + 3)) := hid (by
                  rw [HNum.out, HT.out, if_pos ⟨by omega, by omega, hg2⟩])
                have hxd : (s.extract 3 (3 + n)).data.toList = (s.data.toList.drop 3).take n := by rw [data_extract, List.drop_take]; congr 1; omega
                have hxs : (s.extract 3 (3 + n)).size = n := by rw [ByteArray.size_extract]; omega
                have hall : ∀ c ∈ (s.data.toList.drop 3).take n, isH c = true := fun c hc => digP_isH true c (List.all_eq_true.1 Hdig.out c hc)
                have hnb := fun w => number_any (s.extract 3 (3 + n)) true w (by omega) (by rw [hxd, List.all_eq_true]; exact hall)
                obtain ⟨v, hv⟩ : ∃ v, valN (baseN true) ((s.data.toList.drop 3).take n) = v := ⟨_, rfl⟩
                rw [hxd, hv] at hnb
                have hvl : v < 536870912 := by
                  have hl : ((s.data.toList.drop 3).take n).length = n := by rw [List.length_take, List.length_drop, Hlen.out]; omega
                  have := valN_lt (baseN true) (by decide) n _ hl (fun c hc => dval_lt c (hall c hc))
                  have h7 : 16 ^ n ≤ 16 ^ 7 := Nat.pow_le_pow_right (by omega) (by omega)
                  omega
                rw [hv] at HO
                obtain ⟨z, hz⟩ : ∃ z : Int, (v : Int) = z := ⟨_, rfl⟩
                have hz0 : 0 ≤ z ∧ z < 536870912 := by omega
                have Hz := hid hz
                rw [hz] at hnb
                have Hnb := hid hnb
                clear hnb hv hvl hz hxd hxs hall hg2
                go_wp2_with (first | (go_at_call 64; refine (Hrun.out _).mono ?_; rintro e w1 ⟨rfl, rfl⟩) | (go_at_call 65; refine (Hnb.out _).mono ?_; rintro e w1 ⟨rfl, rfl⟩))
                refine (refEncode_any z (by omega) (by omega) _).mono ?_
                rintro e w2 ⟨t3, r3, rfl, ht3, hr3, hb3⟩
                have hbb := after hbw hb3 hbw.size
                have HO2 : Hid ((((oneR s.data.toList).2 : Nat) : Int) = 3 + n + 1) := hid (by rw [HO.out]; show ((n + 1 + 3 : Nat) : Int) = _; omega)
                cases hok : encOk z with
                | false =>
                  have hcb := chrOf_bad v (by rw [Hz.out]; exact hok)
                  rw [Hz.out] at hcb
                  obtain rfl : r3 = 4 := by rw [hr3.out]; exact hcb.2
                  have Hcb := hid hcb
                  clear hcb hok
                  go_wp2_with fail
                  refine (refEncode_any 65533 (by omega) (by omega) _).mono ?_
                  rintro e w3 ⟨t4, r4, rfl, ht4, hr4, hb4⟩
                  go_wp2
                  go_ret2
                  exact ⟨_, _, rfl, hid (by rw [HO.out, ht4.out]; exact Hcb.out.1.symm), hid (by rw [HO2.out]), after hbb hb4 hbb.size⟩
                | true =>
                  by_cases hz1 : z = 0
                  · subst hz1
                    have hn0 : v = 0 := by have := Hz.out; omega
                    obtain rfl : r3 = 0 := by rw [hr3.out]; rfl
                    have Hcb : Hid (chrOf v = [239, 191, 189]) := hid (by rw [hn0]; rfl)
                    clear hok
                    go_wp2_with fail
                    refine (refEncode_any 65533 (by omega) (by omega) _).mono ?_
                    rintro e w3 ⟨t4, r4, rfl, ht4, hr4, hb4⟩
                    go_wp2
                    go_ret2
                    exact ⟨_, _, rfl, hid (by rw [HO.out, ht4.out]; exact Hcb.out.symm), hid (by rw [HO2.out]), after hbb hb4 hbb.size⟩
                  · have hcb := chrOf_ok v (by rw [Hz.out]; exact hok) (by have := Hz.out; omega)
                    rw [Hz.out] at hcb
                    obtain rfl : r3 = 0 := by rw [hr3.out]; exact hcb.2
                    have Hcb := hid hcb
                    clear hcb hok
                    go_wp2
                    go_ret2
                    exact ⟨_, _, rfl, hid (by rw [HO.out, ht3.out]; exact Hcb.out.1.symm), hid (by rw [HO2.out]), hbb⟩
              · have HO : Hid (oneR s.data.toList = ([], 0)) := hid (by
                  rw [HNum.out, HT.out, if_neg]
                  rintro ⟨_, _, h⟩
                  rw [hget.out] at h
                  injection h with h
                  rw [h] at hy
                  exact hy59 hy.symm)
                have hyne : (y == 59) = false := beq_eq_false_iff_ne.2 hy59
                have hyne2 : (y != 59) = true := bne_iff_ne.2 hy59
                go_wp2_with (go_at_call 64; refine (Hrun.out _).mono ?_; rintro e w1 ⟨rfl, rfl⟩)
                go_ret2
                exact ⟨_, _, rfl, hid (by rw [HO.out]), hid (by rw [HO.out]; rfl), hbw⟩
            · have hdrop : s.data.toList.drop 3 = u := by rw [Ht.out]; rfl
              have hnum : oneR s.data.toList = (match numT true (s.data.toList.drop 3) with | some (x, k) => (x, k + 3) | none => ([], 0)) := by
                rw [HO1.out, hdrop, Ht.out]; simp only [numL]; rw [HX.out]; rfl
              have HNum := hid hnum
              have HT := hid (numT_run s.data.toList 3 true)
              have Hdig := hid (run_digits s.data.toList 3 true)
              have hrl := run_le s.data.toList 3 true
              rw [Hlen.out] at hrl
              have hrun := fun w => run_any s 3 true w hs (by omega)
              obtain ⟨n, hn⟩ : ∃ n, runL s.data.toList 3 true = n := ⟨_, rfl⟩
              rw [hn] at hrl HT Hdig
              simp only [hn] at hrun
              have Hrun := hid hrun
              clear hn hrun hdrop hnum
              by_cases hn0 : n = 0
              · subst hn0
                have HO : Hid (oneR s.data.toList = ([], 0)) := hid (by rw [HNum.out, HT.out, if_neg (by omega)])
                go_wp2_with (go_at_call 64; refine (Hrun.out _).mono ?_; rintro e w1 ⟨rfl, rfl⟩)
                go_ret2
                exact ⟨_, _, rfl, hid (by rw [HO.out]), hid (by rw [HO.out]; rfl), hbw⟩
              by_cases hn7 : 7 < n
              · have HO : Hid (oneR s.data.toList = ([], 0)) := hid (by rw [HNum.out, HT.out, if_neg (by omega)])
                go_wp2_with (go_at_call 64; refine (Hrun.out _).mono ?_; rintro e w1 ⟨rfl, rfl⟩)
                go_ret2
                exact ⟨_, _, rfl, hid (by rw [HO.out]), hid (by rw [HO.out]; rfl), hbw⟩
              by_cases hend : s.size ≤ 3 + n
              · have HO : Hid (oneR s.data.toList = ([], 0)) := hid (by
                  rw [HNum.out, HT.out, if_neg]
                  rintro ⟨_, _, h⟩
                  rw [List.getElem?_eq_none (by rw [Hlen.out]; exact hend)] at h; cases h)
                go_wp2_with (go_at_call 64; refine (Hrun.out _).mono ?_; rintro e w1 ⟨rfl, rfl⟩)
                go_ret2
                exact ⟨_, _, rfl, hid (by rw [HO.out]), hid (by rw [HO.out]; rfl), hbw⟩
              have hlt : 3 + n < s.size := by omega
              have hdl : 3 + n < s.data.toList.length := by rw [Hlen.out]; exact hlt
              obtain ⟨y, hy⟩ : ∃ y : Int, ((s[3 + n]'hlt).toNat : Int) = y := ⟨_, rfl⟩
              have hget : Hid (s.data.toList[3 + n]? = some (s[3 + n]'hlt)) := hid (by rw [List.getElem?_eq_getElem hdl, data_get s (3 + n) hlt hdl])
              by_cases hy59 : y = 59
              · subst hy59
                have hg2 : s.data.toList[3 + n]? = some 59 := by
                  rw [hget.out]; congr 1
                  exact UInt8.toNat_inj.1 (by have : (59 : UInt8).toNat = 59 := rfl; omega)
                have HO : Hid (oneR s.data.toList = (chrOf (valN (baseN true) ((s.data.toList.drop 3).take n)), n + 1 + 3)) := hid (by
                  rw [HNum.out, HT.out, if_pos ⟨by omega, by omega, hg2⟩])
                have hxd : (s.extract 3 (3 + n)).data.toList = (s.data.toList.drop 3).take n := by rw [data_extract, List.drop_take]; congr 1; omega
                have hxs : (s.extract 3 (3 + n)).size = n := by rw [ByteArray.size_extract]; omega
                have hall : ∀ c ∈ (s.data.toList.drop 3).take n, isH c = true := fun c hc => digP_isH true c (List.all_eq_true.1 Hdig.out c hc)
                have hnb := fun w => number_any (s.extract 3 (3 + n)) true w (by omega) (by rw [hxd, List.all_eq_true]; exact hall)
                obtain ⟨v, hv⟩ : ∃ v, valN (baseN true) ((s.data.toList.drop 3).take n) = v := ⟨_, rfl⟩
                rw [hxd, hv] at hnb
                have hvl : v < 536870912 := by
                  have hl : ((s.data.toList.drop 3).take n).length = n := by rw [List.length_take, List.length_drop, Hlen.out]; omega
                  have := valN_lt (baseN true) (by decide) n _ hl (fun c hc => dval_lt c (hall c hc))
                  have h7 : 16 ^ n ≤ 16 ^ 7 := Nat.pow_le_pow_right (by omega) (by omega)
                  omega
                rw [hv] at HO
                obtain ⟨z, hz⟩ : ∃ z : Int, (v : Int) = z := ⟨_, rfl⟩
                have hz0 : 0 ≤ z ∧ z < 536870912 := by omega
                have Hz := hid hz
                rw [hz] at hnb
                have Hnb := hid hnb
                clear hnb hv hvl hz hxd hxs hall hg2
                go_wp2_with (first | (go_at_call 64; refine (Hrun.out _).mono ?_; rintro e w1 ⟨rfl, rfl⟩) | (go_at_call 65; refine (Hnb.out _).mono ?_; rintro e w1 ⟨rfl, rfl⟩))
                refine (refEncode_any z (by omega) (by omega) _).mono ?_
                rintro e w2 ⟨t3, r3, rfl, ht3, hr3, hb3⟩
                have hbb := after hbw hb3 hbw.size
                have HO2 : Hid ((((oneR s.data.toList).2 : Nat) : Int) = 3 + n + 1) := hid (by rw [HO.out]; show ((n + 1 + 3 : Nat) : Int) = _; omega)
                cases hok : encOk z with
                | false =>
                  have hcb := chrOf_bad v (by rw [Hz.out]; exact hok)
                  rw [Hz.out] at hcb
                  obtain rfl : r3 = 4 := by rw [hr3.out]; exact hcb.2
                  have Hcb := hid hcb
                  clear hcb hok
                  go_wp2_with fail
                  refine (refEncode_any 65533 (by omega) (by omega) _).mono ?_
                  rintro e w3 ⟨t4, r4, rfl, ht4, hr4, hb4⟩
                  go_wp2
                  go_ret2
                  exact ⟨_, _, rfl, hid (by rw [HO.out, ht4.out]; exact Hcb.out.1.symm), hid (by rw [HO2.out]), after hbb hb4 hbb.size⟩
                | true =>
                  by_cases hz1 : z = 0
                  · subst hz1
                    have hn0 : v = 0 := by have := Hz.out; omega
                    obtain rfl : r3 = 0 := by rw [hr3.out]; rfl
                    have Hcb : Hid (chrOf v = [239, 191, 189]) := hid (by rw [hn0]; rfl)
                    clear hok
                    go_wp2_with fail
                    refine (refEncode_any 65533 (by omega) (by omega) _).mono ?_
                    rintro e w3 ⟨t4, r4, rfl, ht4, hr4, hb4⟩
                    go_wp2
                    go_ret2
                    exact ⟨_, _, rfl, hid (by rw [HO.out, ht4.out]; exact Hcb.out.symm), hid (by rw [HO2.out]), after hbb hb4 hbb.size⟩
                  · have hcb := chrOf_ok v (by rw [Hz.out]; exact hok) (by have := Hz.out; omega)
                    rw [Hz.out] at hcb
                    obtain rfl : r3 = 0 := by rw [hr3.out]; exact hcb.2
                    have Hcb := hid hcb
                    clear hcb hok
                    go_wp2
                    go_ret2
                    exact ⟨_, _, rfl, hid (by rw [HO.out, ht3.out]; exact Hcb.out.1.symm), hid (by rw [HO2.out]), hbb⟩
              · have HO : Hid (oneR s.data.toList = ([], 0)) := hid (by
                  rw [HNum.out, HT.out, if_neg]
                  rintro ⟨_, _, h⟩
                  rw [hget.out] at h
                  injection h with h
                  rw [h] at hy
                  exact hy59 hy.symm)
                have hyne : (y == 59) = false := beq_eq_false_iff_ne.2 hy59
                have hyne2 : (y != 59) = true := bne_iff_ne.2 hy59
                go_wp2_with (go_at_call 64; refine (Hrun.out _).mono ?_; rintro e w1 ⟨rfl, rfl⟩)
                go_ret2
                exact ⟨_, _, rfl, hid (by rw [HO.out]), hid (by rw [HO.out]; rfl), hbw⟩
          | false =>
            rw [hx] at hX
            have HX := hid hx
            have hm1 : (m == 120) = false ∧ (m == 88) = false := by
              have := hX.symm
              rw [Bool.or_eq_false_iff] at this; exact this
            obtain ⟨hm1, hm2⟩ := hm1
            clear hX hsc ht hx
            have hdrop : s.data.toList.drop 2 = c :: u := by rw [Ht.out]; rfl
            have hnum : oneR s.data.toList = (match numT false (s.data.toList.drop 2) with | some (x, k) => (x, k + 2) | none => ([], 0)) := by
              rw [HO1.out, hdrop, Ht.out]; simp only [numL]; rw [HX.out]; rfl
            have HNum := hid hnum
            have HT := hid (numT_run s.data.toList 2 false)
            have Hdig := hid (run_digits s.data.toList 2 false)
            have hrl := run_le s.data.toList 2 false
            rw [Hlen.out] at hrl
            have hrun := fun w => run_any s 2 false w hs (by omega)
            obtain ⟨n, hn⟩ : ∃ n, runL s.data.toList 2 false = n := ⟨_, rfl⟩
            rw [hn] at hrl HT Hdig
            simp only [hn] at hrun
            have Hrun := hid hrun
            clear hn hrun hdrop hnum
            by_cases hn0 : n = 0
            · subst hn0
              have HO : Hid (oneR s.data.toList = ([], 0)) := hid (by rw [HNum.out, HT.out, if_neg (by omega)])
              go_wp2_with (go_at_call 64; refine (Hrun.out _).mono ?_; rintro e w1 ⟨rfl, rfl⟩)
              go_ret2
              exact ⟨_, _, rfl, hid (by rw [HO.out]), hid (by rw [HO.out]; rfl), hbw⟩
            by_cases hn7 : 7 < n
            · have HO : Hid (oneR s.data.toList = ([], 0)) := hid (by rw [HNum.out, HT.out, if_neg (by omega)])
              go_wp2_with (go_at_call 64; refine (Hrun.out _).mono ?_; rintro e w1 ⟨rfl, rfl⟩)
              go_ret2
              exact ⟨_, _, rfl, hid (by rw [HO.out]), hid (by rw [HO.out]; rfl), hbw⟩
            by_cases hend : s.size ≤ 2 + n
            · have HO : Hid (oneR s.data.toList = ([], 0)) := hid (by
                rw [HNum.out, HT.out, if_neg]
                rintro ⟨_, _, h⟩
                rw [List.getElem?_eq_none (by rw [Hlen.out]; exact hend)] at h; cases h)
              go_wp2_with (go_at_call 64; refine (Hrun.out _).mono ?_; rintro e w1 ⟨rfl, rfl⟩)
              go_ret2
              exact ⟨_, _, rfl, hid (by rw [HO.out]), hid (by rw [HO.out]; rfl), hbw⟩
            have hlt : 2 + n < s.size := by omega
            have hdl : 2 + n < s.data.toList.length := by rw [Hlen.out]; exact hlt
            obtain ⟨y, hy⟩ : ∃ y : Int, ((s[2 + n]'hlt).toNat : Int) = y := ⟨_, rfl⟩
            have hget : Hid (s.data.toList[2 + n]? = some (s[2 + n]'hlt)) := hid (by rw [List.getElem?_eq_getElem hdl, data_get s (2 + n) hlt hdl])
            by_cases hy59 : y = 59
            · subst hy59
              have hg2 : s.data.toList[2 + n]? = some 59 := by
                rw [hget.out]; congr 1
                exact UInt8.toNat_inj.1 (by have : (59 : UInt8).toNat = 59 := rfl; omega)
              have HO : Hid (oneR s.data.toList = (chrOf (valN (baseN false) ((s.data.toList.drop 2).take n)), n + 1 + 2)) := hid (by
                rw [HNum.out, HT.out, if_pos ⟨by omega, by omega, hg2⟩])
              have hxd : (s.extract 2 (2 + n)).data.toList = (s.data.toList.drop 2).take n := by rw [data_extract, List.drop_take]; congr 1; omega
              have hxs : (s.extract 2 (2 + n)).size = n := by rw [ByteArray.size_extract]; omega
              have hall : ∀ c ∈ (s.data.toList.drop 2).take n, isH c = true := fun c hc => digP_isH false c (List.all_eq_true.1 Hdig.out c hc)
              have hnb := fun w => number_any (s.extract 2 (2 + n)) false w (by omega) (by rw [hxd, List.all_eq_true]; exact hall)
              obtain ⟨v, hv⟩ : ∃ v, valN (baseN false) ((s.data.toList.drop 2).take n) = v := ⟨_, rfl⟩
              rw [hxd, hv] at hnb
              have hvl : v < 536870912 := by
                have hl : ((s.data.toList.drop 2).take n).length = n := by rw [List.length_take, List.length_drop, Hlen.out]; omega
                have := valN_lt (baseN false) (by decide) n _ hl (fun c hc => dval_lt c (hall c hc))
                have h7 : 16 ^ n ≤ 16 ^ 7 := Nat.pow_le_pow_right (by omega) (by omega)
                omega
              rw [hv] at HO
              obtain ⟨z, hz⟩ : ∃ z : Int, (v : Int) = z := ⟨_, rfl⟩
              have hz0 : 0 ≤ z ∧ z < 536870912 := by omega
              have Hz := hid hz
              rw [hz] at hnb
              have Hnb := hid hnb
              clear hnb hv hvl hz hxd hxs hall hg2
              go_wp2_with (first | (go_at_call 64; refine (Hrun.out _).mono ?_; rintro e w1 ⟨rfl, rfl⟩) | (go_at_call 65; refine (Hnb.out _).mono ?_; rintro e w1 ⟨rfl, rfl⟩))
              refine (refEncode_any z (by omega) (by omega) _).mono ?_
              rintro e w2 ⟨t3, r3, rfl, ht3, hr3, hb3⟩
              have hbb := after hbw hb3 hbw.size
              have HO2 : Hid ((((oneR s.data.toList).2 : Nat) : Int) = 2 + n + 1) := hid (by rw [HO.out]; show ((n + 1 + 2 : Nat) : Int) = _; omega)
              cases hok : encOk z with
              | false =>
                have hcb := chrOf_bad v (by rw [Hz.out]; exact hok)
                rw [Hz.out] at hcb
                obtain rfl : r3 = 4 := by rw [hr3.out]; exact hcb.2
                have Hcb := hid hcb
                clear hcb hok
                go_wp2_with fail
                refine (refEncode_any 65533 (by omega) (by omega) _).mono ?_
                rintro e w3 ⟨t4, r4, rfl, ht4, hr4, hb4⟩
                go_wp2
                go_ret2
                exact ⟨_, _, rfl, hid (by rw [HO.out, ht4.out]; exact Hcb.out.1.symm), hid (by rw [HO2.out]), after hbb hb4 hbb.size⟩
              | true =>
                by_cases hz1 : z = 0
                · subst hz1
                  have hn0 : v = 0 := by have := Hz.out; omega
                  obtain rfl : r3 = 0 := by rw [hr3.out]; rfl
                  have Hcb : Hid (chrOf v = [239, 191, 189]) := hid (by rw [hn0]; rfl)
                  clear hok
                  go_wp2_with fail
                  refine (refEncode_any 65533 (by omega) (by omega) _).mono ?_
                  rintro e w3 ⟨t4, r4, rfl, ht4, hr4, hb4⟩
                  go_wp2
                  go_ret2
                  exact ⟨_, _, rfl, hid (by rw [HO.out, ht4.out]; exact Hcb.out.symm), hid (by rw [HO2.out]), after hbb hb4 hbb.size⟩
                · have hcb := chrOf_ok v (by rw [Hz.out]; exact hok) (by have := Hz.out; omega)
                  rw [Hz.out] at hcb
                  obtain rfl : r3 = 0 := by rw [hr3.out]; exact hcb.2
                  have Hcb := hid hcb
                  clear hcb hok
                  go_wp2
                  go_ret2
                  exact ⟨_, _, rfl, hid (by rw [HO.out, ht3.out]; exact Hcb.out.1.symm), hid (by rw [HO2.out]), hbb⟩
            · have HO : Hid (oneR s.data.toList = ([], 0)) := hid (by
                rw [HNum.out, HT.out, if_neg]
                rintro ⟨_, _, h⟩
                rw [hget.out] at h
                injection h with h
                rw [h] at hy
                exact hy59 hy.symm)
              have hyne : (y == 59) = false := beq_eq_false_iff_ne.2 hy59
              have hyne2 : (y != 59) = true := bne_iff_ne.2 hy59
              go_wp2_with (go_at_call 64; refine (Hrun.out _).mono ?_; rintro e w1 ⟨rfl, rfl⟩)
              go_ret2
              exact ⟨_, _, rfl, hid (by rw [HO.out]), hid (by rw [HO.out]; rfl), hbw⟩
end Go.Proofs.Ytihgmgpcdodknaa
/- The pages' Decode, Escape, Clean. -/
namespace Go.Proofs.Ytihgmgpcdodknaa
open Go.RowKit

set_option maxRecDepth 100000 in
set_option maxHeartbeats 1600000 in
theorem refDecode06_any (s : ByteArray) (w : World) (hs : s.size ≤ 137438953472) :
    Calls Try.prog 24 #[.string s] w (RStr w (decL s.data.toList)) := by
  have Hlen := hid (len_data s)
  go_enter Try.func24, Try.ntmps24
  go_wp2
  go_loopw [3, 4] (fun b i wr => ∃ (k : Nat) (pre : List UInt8), k ≤ s.size ∧ i = .int .i64 k ∧ pre.length ≤ k ∧ Hid (OwnB wr w.heap.size b pre) ∧ Hid (decL s.data.toList = pre ++ decL (s.data.toList.drop k)) ∧ Below w.heap.size w wr) (fun _ i _ => s.size - (intOf i).toNat)
  case atStart => exact ⟨0, [], Nat.zero_le _, rfl, Nat.le_refl _, hid (OwnB.nil _ _), hid rfl, Below.refl _ _⟩
  case round =>
    obtain ⟨k, pre, hk, rfl, hpk, hO, hd, hb⟩ := hrel
    obtain ⟨ad, cap, rfl⟩ := hO.out.shape
    by_cases hlt : k < s.size
    · have hde : Hid ((s.extract k s.size).data.toList = s.data.toList.drop k) := hid (drop_extract s k (by omega))
      have hkl : k < s.data.toList.length := by rw [Hlen.out]; exact hlt
      obtain ⟨c, hc⟩ : ∃ c, s.data.toList[k] = c := ⟨_, rfl⟩
      have Hcs : Hid (s.data.toList.drop k = c :: s.data.toList.drop (k + 1)) := hid (by rw [List.drop_eq_getElem_cons hkl, hc])
      have hsc : s[k]'hlt = c := by rw [← data_get s k hlt hkl]; exact hc
      have Hone := hid (one_len (s.data.toList.drop k))
      have Hst := hid (decL_cons c (s.data.toList.drop (k + 1)))
      clear hc
      go_wp2_with fail
      refine (refOne_any _ _ (by rw [ByteArray.size_extract]; omega)).mono ?_
      rintro e w2 ⟨x, n', rfl, hx, hn, hb2⟩
      have hxd := hx.out
      have hnd := hn.out
      rw [hde.out] at hxd hnd
      obtain ⟨n, rfl⟩ : ∃ n : Nat, n' = (n : Int) := ⟨_, hnd⟩
      have hn2 : (oneR (s.data.toList.drop k)).2 = n := by omega
      have hxl : x.size ≤ n ∧ k + n ≤ s.size := by
        have h1 := Hone.out
        rw [hn2, ← hxd, len_data, List.length_drop, Hlen.out] at h1
        omega
      have Hn := hid hn2
      have Hx := hid hxd
      have hO2 := hO.out.keep hb2
      have hbb := after hb hb2 hb.size
      clear hn hn2 hx hxd hnd
      by_cases hn0 : n = 0
      · subst hn0
        have hcb : (c.toNat : Int) ≤ 255 := by have := c.toNat_lt; omega
        go_wp2_with (at_builtin; refine wpl_push1 rfl _ _ rfl w.heap.size _ pre _ _ hO2 rfl rfl (by omega) hcb (by omega) hbb.size ?_; intro v' w3 hO3 hb3)
        go_roundw
        case rel =>
          refine ⟨k + 1, _, by omega, by go_num, by simp; omega, hid hO3, hid ?_, hbb.trans hb3⟩
          rw [hd.out, List.append_assoc, bOf_cast, Hcs.out, Hst.out, ← Hcs.out, Hn.out, if_neg (by omega)]; rfl
        case measure => simp [intOf]; omega
      · have hn1 : (n : Int) ≠ 0 := by omega
        go_wp2_with (at_builtin; refine wpl_pushs1 rfl _ _ rfl w.heap.size _ pre _ hO2 rfl x rfl (by omega) hbb.size ?_; intro v' w3 hO3 hb3)
        go_roundw
        case rel =>
          refine ⟨k + n, _, by omega, by go_num, by rw [List.length_append, len_data]; omega, hid hO3, hid ?_, hbb.trans hb3⟩
          rw [hd.out, List.append_assoc, Hx.out, Hcs.out, Hst.out, ← Hcs.out, Hn.out, if_pos (by omega), List.drop_drop]
        case measure => simp [intOf]; omega
    · obtain rfl : k = s.size := by omega
      have hcv := hO.out.back
      go_wp2
      go_ret
      refine ⟨_, rfl, hid ?_, hb⟩
      have := hd.out
      rw [List.drop_of_length_le (by rw [Hlen.out]; exact Nat.le_refl _), decL_nil, List.append_nil] at this
      exact this.symm
end Go.Proofs.Ytihgmgpcdodknaa
