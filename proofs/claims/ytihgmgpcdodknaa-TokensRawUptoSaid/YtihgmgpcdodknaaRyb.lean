/- The pages' run, Unhex of one octet, number, One, Decode, Escape, Clean, Unfinished; refs.Unfinished. -/
import Derived.Test.YtihgmgpcdodknaaRy
set_option linter.unusedVariables false
namespace Go.Proofs.Ytihgmgpcdodknaa
open Go.RowKit

def hexLetters : List UInt8 := [97, 98, 99, 100, 101, 102, 65, 66, 67, 68, 69, 70]
theorem isH_int (n : Int) (h0 : 0 ≤ n) (h1 : n ≤ 255) : isH (bOf n) = (isD (bOf n) || hasB hexLetters (bOf n)) :=
  byte_all (p := fun c n => isH c = (isD c || hasB hexLetters c)) (by decide +kernel) n h0 h1
def runL (s : List UInt8) (a : Nat) (hex : Bool) : Nat := ((s.drop a).takeWhile (digP hex)).length
theorem run_all (s : List UInt8) (a k : Nat) (hex : Bool) (h : ((s.drop a).take k).all (digP hex) = true) (hk : a + k ≤ s.length) : k ≤ runL s a hex := by
  unfold runL
  have e := List.take_append_drop k (s.drop a)
  rw [← e, List.takeWhile_append_of_pos (fun c hc => List.all_eq_true.1 h c hc), List.length_append, List.length_take, List.length_drop]
  omega
theorem run_stop (s : List UInt8) (a k : Nat) (hex : Bool) (h : ((s.drop a).take k).all (digP hex) = true) (hk : a + k < s.length) (hn : digP hex s[a + k] = false) : runL s a hex = k := by
  unfold runL
  have e := List.take_append_drop k (s.drop a)
  have hd : (s.drop a).drop k = s[a + k] :: s.drop (a + k + 1) := by rw [List.drop_drop, List.drop_eq_getElem_cons hk]
  rw [← e, hd, takeWhile_stop _ _ _ _ h hn, List.length_take, List.length_drop]
  omega
theorem run_end (s : List UInt8) (a k : Nat) (hex : Bool) (h : ((s.drop a).take k).all (digP hex) = true) (hk : a + k = s.length) : runL s a hex = k := by
  have h1 := run_all s a k hex h (by omega)
  have h2 : runL s a hex ≤ (s.drop a).length := by
    unfold runL
    have := (takeWhile_split (digP hex) (s.drop a)).1
    have := congrArg List.length this
    rw [List.length_append] at this
    omega
  rw [List.length_drop] at h2
  omega

set_option maxRecDepth 100000 in
set_option maxHeartbeats 800000 in
theorem run_any (s : ByteArray) (a : Nat) (hex : Bool) (w : World) (hs : s.size ≤ 1099511627776) (ha : a ≤ s.size) :
    Calls Try.prog 64 #[.string s, .int .i64 (a : Int), .bool hex] w fun e w' => e = .returned (.int .i64 (runL s.data.toList a hex : Nat)) ∧ w = w' := by
  have Hlen := hid (len_data s)
  go_enter Try.func64, Try.ntmps64
  go_wp2
  go_loopw [7] (fun i wr => ∃ k : Nat, a + k ≤ s.size ∧ i = .int .i64 k ∧ Hid (((s.data.toList.drop a).take k).all (digP hex) = true) ∧ wr = w) (fun i _ => s.size - (intOf i).toNat)
  case atStart => exact ⟨0, by omega, rfl, hid (by simp), rfl⟩
  case round =>
    obtain ⟨k, hk, rfl, hr, rfl⟩ := hrel
    by_cases hlt : a + k < s.size
    · have hkl : a + k < s.data.toList.length := by rw [Hlen.out]; exact hlt
      obtain ⟨x, hx⟩ : ∃ x, s[a + k]'hlt = x := ⟨_, rfl⟩
      obtain ⟨m, hm⟩ : ∃ m : Int, ((s[a + k]'hlt).toNat : Int) = m := ⟨_, rfl⟩
      have hm0 : 0 ≤ m ∧ m ≤ 255 := by have := (s[a + k]'hlt).toNat_lt; omega
      have hbm : bOf m = x := by rw [← hm, bOf_cast, hx]
      have hi := isH_int m hm0.1 hm0.2
      have hD := refDigit_any m hm0.1 hm0.2
      have hH := fun w => refHas_any ⟨#[97, 98, 99, 100, 101, 102, 65, 66, 67, 68, 69, 70]⟩ m w (by simp [ByteArray.size]) hm0.1 hm0.2
      rw [hbm] at hi hD
      obtain ⟨d, hd⟩ : ∃ d, isD x = d := ⟨_, rfl⟩
      obtain ⟨q, hq⟩ : ∃ q, hasB hexLetters x = q := ⟨_, rfl⟩
      have hq2 : hasB (⟨#[97, 98, 99, 100, 101, 102, 65, 66, 67, 68, 69, 70]⟩ : ByteArray).data.toList (bOf m) = q := by rw [hbm]; exact hq
      rw [hd] at hD
      simp only [hq2] at hH
      rw [hd, hq] at hi
      have HD := hid hD
      have HH := hid hH
      have HP : Hid (digP hex x = (d || (hex && q))) := hid (by
        unfold digP
        cases hex with
        | true => rw [if_pos rfl, hi]; simp
        | false => rw [if_neg (by simp), hd]; simp)
      have hsx : s.data.toList[a + k] = x := by rw [data_get s (a + k) hlt hkl]; exact hx
      have Hstop := hid (fun h => run_stop s.data.toList a k hex hr.out hkl h)
      rw [hsx] at Hstop
      have Hst : Hid (digP hex x = true → ((s.data.toList.drop a).take (k + 1)).all (digP hex) = true) := hid (fun h => by
        have hdl : k < (s.data.toList.drop a).length := by rw [List.length_drop]; omega
        rw [take_one _ k hdl, all_snoc, hr.out, List.getElem_drop, hsx, h]; rfl)
      clear hi hD hH hd hq hq2 hbm hx hsx
      cases d with
      | true =>
        go_wp2_with (go_at_call 67; refine (HD.out _).mono ?_; rintro e w1 ⟨rfl, rfl⟩)
        go_roundw
        case rel => exact ⟨k + 1, by omega, by go_num, hid (Hst.out (by rw [HP.out]; rfl)), by first | trivial | rfl⟩
        case measure => simp [intOf]; omega
      | false =>
        cases hex with
        | false =>
          go_wp2_with (go_at_call 67; refine (HD.out _).mono ?_; rintro e w1 ⟨rfl, rfl⟩)
          go_ret
          exact ⟨ret_int (by rw [Hstop.out (by rw [HP.out]; rfl)]), rfl⟩
        | true =>
          cases q with
          | true =>
            go_wp2_with (first | (go_at_call 67; refine (HD.out _).mono ?_; rintro e w1 ⟨rfl, rfl⟩) | (go_at_call 80; refine (HH.out _).mono ?_; rintro e w1 ⟨rfl, rfl⟩))
            go_roundw
            case rel => exact ⟨k + 1, by omega, by go_num, hid (Hst.out (by rw [HP.out]; rfl)), by first | trivial | rfl⟩
            case measure => simp [intOf]; omega
          | false =>
            go_wp2_with (first | (go_at_call 67; refine (HD.out _).mono ?_; rintro e w1 ⟨rfl, rfl⟩) | (go_at_call 80; refine (HH.out _).mono ?_; rintro e w1 ⟨rfl, rfl⟩))
            go_ret
            exact ⟨ret_int (by rw [Hstop.out (by rw [HP.out]; rfl)]), rfl⟩
    · have he := run_end s.data.toList a k hex hr.out (by rw [Hlen.out]; omega)
      have HE := hid he
      clear he
      go_wp2
      go_ret
      exact ⟨ret_int (by rw [HE.out]), rfl⟩

set_option maxRecDepth 100000 in
set_option maxHeartbeats 800000 in
/-- Unhex of one octet -/
theorem refUnhex1_any (s : ByteArray) (c : UInt8) (w : World) (hs : s.data.toList = [c]) (hc : isH c = true) :
    Calls Try.prog 81 #[.string s] w fun e w' => e = .returned (.tuple #[.int .i64 (dval c : Int), .int .i64 0]) ∧ w = w' := by
  have hsz : s.size = 1 := by rw [← len_data, hs]; rfl
  have hpos : 0 < s.size := by omega
  have hsx : s[0]'hpos = c := by rw [← data_get s 0 hpos (by rw [hs]; simp)]; simp [hs]
  have hemp : s.toList.isEmpty = false := by rw [ByteArray.toList_eq, hs]; rfl
  obtain ⟨m, hm⟩ : ∃ m : Int, ((s[0]'hpos).toNat : Int) = m := ⟨_, rfl⟩
  have hm0 : 0 ≤ m ∧ m ≤ 255 := by have := (s[0]'hpos).toNat_lt; omega
  have hbm : bOf m = c := by rw [← hm, bOf_cast, hsx]
  have hd := refdigit_any m hm0.1 hm0.2
  have hdg : dgI (bOf m) = (dval c : Int) := by rw [hbm]; unfold dgI; rw [if_pos hc]
  rw [hdg] at hd
  obtain ⟨d, hdd⟩ : ∃ d : Int, (dval c : Int) = d := ⟨_, rfl⟩
  have hd0 : 0 ≤ d ∧ d < 16 := by have := dval_lt c hc; omega
  rw [hdd] at hd ⊢
  have HD := hid hd
  obtain rfl : s = ⟨#[c]⟩ := bytes_eq hs
  have hs0 : (⟨#[c]⟩ : ByteArray).size = 1 := rfl
  clear hd hdg hdd hbm hsx hs hc
  go_enter Try.func81, Try.ntmps81
  go_wp2
  go_loopw [4, 5] (fun q i wr => ((q = .int .i64 0 ∧ i = .int .i64 0) ∨ (q = .int .i64 d ∧ i = .int .i64 1)) ∧ wr = w) (fun _ i _ => 1 - (intOf i).toNat)
  case atStart => exact ⟨.inl ⟨rfl, rfl⟩, rfl⟩
  case round =>
    obtain ⟨⟨rfl, rfl⟩ | ⟨rfl, rfl⟩, rfl⟩ := hrel
    · go_wp2_with (go_at_call 98; refine (HD.out _).mono ?_; rintro e w1 ⟨rfl, rfl⟩)
      go_roundw
      case rel => exact ⟨.inr ⟨by go_num, by go_num⟩, by first | trivial | rfl⟩
      case measure => simp [intOf]
    · go_wp2
      go_ret2
      exact ⟨rfl, rfl⟩
end Go.Proofs.Ytihgmgpcdodknaa
