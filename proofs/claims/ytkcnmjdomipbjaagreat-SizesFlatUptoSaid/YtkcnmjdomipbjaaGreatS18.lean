import Derived.Test.YtkcnmjdomipbjaaGreatS10
import Derived.Test.YtkcnmjdomipbjaaGreatS13
set_option linter.unusedVariables false
set_option maxHeartbeats 100000000
set_option maxRecDepth 100000
namespace Go.Proofs.YtkcnmjdomipbjaaGreat
open Go.RowKit
section
open Go.RowKit Go.Lib
def unfR (s : List UInt8) : Bool :=
 match s with
 | 38 :: t => names.any (fun p => t.isPrefixOf p.1) || ((partL t).2.2 && numericL (partL t).1 (partL t).2.1)
 | _ => false
end
def begL (p s : List UInt8) : Bool := p.isPrefixOf s
def dgI (c : UInt8) : Int := if isH c then (dval c : Int) else -1
theorem prefix_take (p s : List UInt8) (h : p.length <= s.length) : begL p s = decide (s.take p.length = p) := by
 unfold begL
 rw [Bool.eq_iff_iff, List.isPrefixOf_iff_prefix, decide_eq_true_iff]
 constructor
 ·rintro ⟨r, rfl⟩; simp
 intro e; exact ⟨s.drop p.length, by conv => lhs; lhs; rw [<- e]
                                     exact List.take_append_drop _ _⟩
theorem prefix_long (p s : List UInt8) (h : ¬ p.length <= s.length) : begL p s = false := by
 unfold begL
 rw [Bool.eq_false_iff]
 intro e
 rw [List.isPrefixOf_iff_prefix] at e
 exact h e.length_le
theorem begins_any (p s : ByteArray) (w : World) (hp : p.size <= 1099511627776) (hs : s.size <= 1099511627776) :
  Calls Tryz.prog 35 #[.string p, .string s] w fun e w' => e = .returned (.bool (begL p.data.toList s.data.toList)) /\ w = w' := by
 have Hlp := hid (len_data p)
 have Hls := hid (len_data s)
 by_cases hl : (p.size : Int) <= s.size
 ·have Hpt := hid (prefix_take p.data.toList s.data.toList (by rw [Hlp.out, Hls.out]; omega));obtain ⟨q, hq⟩ := xE ((s.extract 0 p.size).toList == p.toList);have Hq := hid hq;go_enter Tryz.func35, Tryz.ntmps35;go_wp2
  all_goals go_ret
  all_goals
   refine ⟨ret_bool ?_, rfl⟩;rw [Hpt.out, <- Hq.out, ByteArray.toList_eq, ByteArray.toList_eq, data_extract, List.drop_zero, Hlp.out];rw [Bool.eq_iff_iff]; simp
 have Hpt := hid (prefix_long p.data.toList s.data.toList (by rw [Hlp.out, Hls.out]; omega))
 go_enter Tryz.func35, Tryz.ntmps35
 go_wp2
 all_goals go_ret
 all_goals (refine ⟨ret_bool ?_, rfl⟩; rw [Hpt.out])
theorem isD_int (n : Int) (h0 : 0 <= n) (h1 : n <= 255) : isD (bOf n) = (decide (48 <= n) && decide (n <= 57)) :=
 byte_all (p := fun c n => isD c = (decide (48 <= n) && decide (n <= 57))) (by decide +kernel) n h0 h1
theorem refDigit6_any (n : Int) (h0 : 0 <= n) (h1 : n <= 255) (w : World) :
  Calls Tryz.prog 63 #[.int .u8 n] w fun e w' => e = .returned (.bool (isD (bOf n))) /\ w = w' := by
 have hl := hid (isD_int n h0 h1)
 go_enter Tryz.func63, Tryz.ntmps63
 go_wp2
 all_goals go_ret
 all_goals (refine ⟨ret_bool ?_, rfl⟩; rw [hl.out]; first | (simp [*]; done) | (simp; omega))
theorem refHas6_any (s : ByteArray) (n : Int) (w : World) (hs : s.size <= 1099511627776) (h0 : 0 <= n) (h1 : n <= 255) :
  Calls Tryz.prog 112 #[.string s, .int .u8 n] w fun e w' => e = .returned (.bool (hasB s.data.toList (bOf n))) /\ w = w' := by
 have Hlen := hid (len_data s)
 go_enter Tryz.func112, Tryz.ntmps112
 go_wp2
 go_loopw [5] (fun i wr => ∃ k : Nat, k <= s.size /\ i = .int .i64 k /\ Hid (hasB (s.data.toList.take k) (bOf n) = false) /\ wr = w) (fun i _ => s.size - (intOf i).toNat)
 case atStart => exact ⟨0, Nat.zero_le _, rfl, hid rfl, rfl⟩
 obtain ⟨k, hk, rfl, hr, rfl⟩ := hrel
 by_cases hlt : k < s.size
 ·have hkl : k < s.data.toList.length := by rw [Hlen.out]; exact hlt
  obtain ⟨x, hx⟩ := xE (s[k]'hlt);have Hst : Hid (hasB (s.data.toList.take (k + 1)) (bOf n) = (x == bOf n)) := hid (by
   rw [take_one _ k hkl, hasB_snoc, hr.out, data_get s k hlt hkl, hx]; rfl)
  have Hmem : Hid (x ∈ s.data.toList) := hid (by rw [<- hx, <- data_get s k hlt hkl]; exact List.getElem_mem _);obtain ⟨m, hm⟩ : ∃ m : Int, ((s[k]'hlt).toNat : Int) = m := ⟨_, rfl⟩
  have hm0 : 0 <= m /\ m <= 255 := by have := (s[k]'hlt).toNat_lt; omega
  have Heq : Hid ((m = n) ↔ x = bOf n) := hid (by
   rw [<- bOf_eq m n hm0.1 hm0.2 h0 h1, <- hm, bOf_cast, hx])
  clear hx;by_cases hmn : m = n
  ·subst hmn;go_wp2
   go_ret;refine ⟨ret_bool ?_, rfl⟩;rw [<- Heq.out.mp (by first | trivial | rfl), hasB_true Hmem.out]
  have hne : (m == n) = false := beq_eq_false_iff_ne.2 hmn;have Hx : Hid ((x == bOf n) = false) := hid (beq_eq_false_iff_ne.2 (fun e => hmn (Heq.out.mpr e)));go_wp2
  go_roundw
  case rel => exact ⟨k + 1, by omega, by go_num, hid (by rw [Hst.out, Hx.out]), by first | trivial | rfl⟩
  simp [intOf]; omega
 obtain rfl : k = s.size := by omega
 have hr2 := hr.out
 rw [take_all] at hr2
 have HR := hid hr2
 clear hr2
 go_wp2
 go_ret
 exact ⟨ret_bool HR.out.symm, rfl⟩
theorem dval_int (n : Int) (h0 : 0 <= n) (h1 : n <= 255) : dgI (bOf n) = if 48 <= n /\ n <= 57 then n - 48 else if 97 <= n /\ n <= 102 then n - 97 + 10 else if 65 <= n /\ n <= 70 then n - 65 + 10 else -1 :=
 byte_all (p := fun c n => dgI c = if 48 <= n /\ n <= 57 then n - 48 else if 97 <= n /\ n <= 102 then n - 97 + 10 else if 65 <= n /\ n <= 70 then n - 65 + 10 else -1) (by decide +kernel) n h0 h1
theorem refdigit_any (n : Int) (h0 : 0 <= n) (h1 : n <= 255) (w : World) :
  Calls Tryz.prog 149 #[.int .u8 n] w fun e w' => e = .returned (.int .i64 (dgI (bOf n))) /\ w = w' := by
 have hl := hid (dval_int n h0 h1)
 have hD := isD_int n h0 h1
 obtain ⟨q, hq⟩ := xE (isD (bOf n))
 rw [hq] at hD
 have HD := hid hD
 have hcall := refDigit6_any n h0 h1
 rw [hq] at hcall
 have Hcall := hid hcall
 clear hq hcall hD
 cases q with
 | true =>
  have hr : 48 <= n /\ n <= 57 := by
   have := HD.out.symm;rw [Bool.and_eq_true, decide_eq_true_iff, decide_eq_true_iff] at this; exact this
  go_enter Tryz.func149, Tryz.ntmps149;go_wp2_with (go_at_call 63; refine (Hcall.out _).mono ?_; rintro e w1 ⟨rfl, rfl⟩)
  all_goals go_ret
  all_goals (refine ⟨ret_int ?_, rfl⟩; rw [hl.out, if_pos hr])
 | false =>
  have hr : ¬ (48 <= n /\ n <= 57) := by
   intro h;have := HD.out.symm;rw [decide_eq_true h.1, decide_eq_true h.2] at this;cases this
  go_enter Tryz.func149, Tryz.ntmps149;go_wp2_with (go_at_call 63; refine (Hcall.out _).mono ?_; rintro e w1 ⟨rfl, rfl⟩)
  all_goals go_ret
  all_goals (refine ⟨ret_int ?_, rfl⟩; rw [hl.out, if_neg hr]; repeat' split; all_goals first | omega | rfl)
def hexLetters : List UInt8 := [97, 98, 99, 100, 101, 102, 65, 66, 67, 68, 69, 70]
theorem isH_int (n : Int) (h0 : 0 <= n) (h1 : n <= 255) : isH (bOf n) = (isD (bOf n) || hasB hexLetters (bOf n)) :=
 byte_all (p := fun c n => isH c = (isD c || hasB hexLetters c)) (by decide +kernel) n h0 h1
def runL (s : List UInt8) (a : Nat) (hex : Bool) : Nat := ((s.drop a).takeWhile (digP hex)).length
theorem run_all (s : List UInt8) (a k : Nat) (hex : Bool) (h : ((s.drop a).take k).all (digP hex) = true) (hk : a + k <= s.length) : k <= runL s a hex := by
 unfold runL
 have e := List.take_append_drop k (s.drop a)
 rw [<- e, List.takeWhile_append_of_pos (fun c hc => List.all_eq_true.1 h c hc), List.length_append, List.length_take, List.length_drop]
 omega
theorem run_stop (s : List UInt8) (a k : Nat) (hex : Bool) (h : ((s.drop a).take k).all (digP hex) = true) (hk : a + k < s.length) (hn : digP hex s[a + k] = false) : runL s a hex = k := by
 unfold runL
 have e := List.take_append_drop k (s.drop a)
 have hd : (s.drop a).drop k = s[a + k] :: s.drop (a + k + 1) := by rw [List.drop_drop, List.drop_eq_getElem_cons hk]
 rw [<- e, hd, takeWhile_stop _ _ _ _ h hn, List.length_take, List.length_drop]
 omega
theorem run_end (s : List UInt8) (a k : Nat) (hex : Bool) (h : ((s.drop a).take k).all (digP hex) = true) (hk : a + k = s.length) : runL s a hex = k := by
 have h1 := run_all s a k hex h (by omega)
 have h2 : runL s a hex <= (s.drop a).length := by
  unfold runL;have := (takeWhile_split (digP hex) (s.drop a)).1;have := congrArg List.length this;rw [List.length_append] at this;omega
 rw [List.length_drop] at h2
 omega
theorem run_any (s : ByteArray) (a : Nat) (hex : Bool) (w : World) (hs : s.size <= 1099511627776) (ha : a <= s.size) :
  Calls Tryz.prog 139 #[.string s, .int .i64 (a : Int), .bool hex] w fun e w' => e = .returned (.int .i64 (runL s.data.toList a hex : Nat)) /\ w = w' := by
 have Hlen := hid (len_data s)
 go_enter Tryz.func139, Tryz.ntmps139
 go_wp2
 go_loopw [7] (fun i wr => ∃ k : Nat, a + k <= s.size /\ i = .int .i64 k /\ Hid (((s.data.toList.drop a).take k).all (digP hex) = true) /\ wr = w) (fun i _ => s.size - (intOf i).toNat)
 case atStart => exact ⟨0, by omega, rfl, hid (by simp), rfl⟩
 obtain ⟨k, hk, rfl, hr, rfl⟩ := hrel
 by_cases hlt : a + k < s.size
 ·have hkl : a + k < s.data.toList.length := by rw [Hlen.out]; exact hlt
  obtain ⟨x, hx⟩ := xE (s[a + k]'hlt);obtain ⟨m, hm⟩ : ∃ m : Int, ((s[a + k]'hlt).toNat : Int) = m := ⟨_, rfl⟩
  have hm0 : 0 <= m /\ m <= 255 := by have := (s[a + k]'hlt).toNat_lt; omega
  have hbm : bOf m = x := by rw [<- hm, bOf_cast, hx]
  have hi := isH_int m hm0.1 hm0.2;have hD := refDigit6_any m hm0.1 hm0.2;have hH := fun w => refHas6_any ⟨#[97, 98, 99, 100, 101, 102, 65, 66, 67, 68, 69, 70]⟩ m w (by simp [ByteArray.size]) hm0.1 hm0.2
  rw [hbm] at hi hD;obtain ⟨d, hd⟩ := xE (isD x);obtain ⟨q, hq⟩ := xE (hasB hexLetters x);have hq2 : hasB (⟨#[97, 98, 99, 100, 101, 102, 65, 66, 67, 68, 69, 70]⟩ : ByteArray).data.toList (bOf m) = q := by rw [hbm]; exact hq
  rw [hd] at hD;simp only [hq2] at hH;rw [hd, hq] at hi;have HD := hid hD;have HH := hid hH;have HP : Hid (digP hex x = (d || (hex && q))) := hid (by
   unfold digP;cases hex with
   | true => rw [if_pos rfl, hi]; simp
   | false => rw [if_neg (by simp), hd]; simp)
  have hsx : s.data.toList[a + k] = x := by rw [data_get s (a + k) hlt hkl]; exact hx
  have Hstop := hid (fun h => run_stop s.data.toList a k hex hr.out hkl h);rw [hsx] at Hstop;have Hst : Hid (digP hex x = true -> ((s.data.toList.drop a).take (k + 1)).all (digP hex) = true) := hid (fun h => by
   have hdl : k < (s.data.toList.drop a).length := by rw [List.length_drop]; omega
   rw [take_one _ k hdl, all_snoc, hr.out, List.getElem_drop, hsx, h]; rfl)
  clear hi hD hH hd hq hq2 hbm hx hsx;cases d with
  | true =>
   go_wp2_with (go_at_call 63; refine (HD.out _).mono ?_; rintro e w1 ⟨rfl, rfl⟩)
   go_roundw
   case rel => exact ⟨k + 1, by omega, by go_num, hid (Hst.out (by rw [HP.out]; rfl)), by first | trivial | rfl⟩
   simp [intOf]; omega
  | false =>
   cases hex with
   | false =>
    go_wp2_with (go_at_call 63; refine (HD.out _).mono ?_; rintro e w1 ⟨rfl, rfl⟩)
    go_ret;exact ⟨ret_int (by rw [Hstop.out (by rw [HP.out]; rfl)]), rfl⟩
   | true =>
    cases q with
    | true =>
     go_wp2_with (first | (go_at_call 63; refine (HD.out _).mono ?_; rintro e w1 ⟨rfl, rfl⟩) | (go_at_call 112; refine (HH.out _).mono ?_; rintro e w1 ⟨rfl, rfl⟩))
     go_roundw
     case rel => exact ⟨k + 1, by omega, by go_num, hid (Hst.out (by rw [HP.out]; rfl)), by first | trivial | rfl⟩
     simp [intOf]; omega
    | false =>
     go_wp2_with (first | (go_at_call 63; refine (HD.out _).mono ?_; rintro e w1 ⟨rfl, rfl⟩) | (go_at_call 112; refine (HH.out _).mono ?_; rintro e w1 ⟨rfl, rfl⟩))
     go_ret;exact ⟨ret_int (by rw [Hstop.out (by rw [HP.out]; rfl)]), rfl⟩
 have he := run_end s.data.toList a k hex hr.out (by rw [Hlen.out]; omega)
 have HE := hid he
 clear he
 go_wp2
 go_ret
 exact ⟨ret_int (by rw [HE.out]), rfl⟩
theorem refUnhex1_any (s : ByteArray) (c : UInt8) (w : World) (hs : s.data.toList = [c]) (hc : isH c = true) :
  Calls Tryz.prog 146 #[.string s] w fun e w' => e = .returned (.tuple #[.int .i64 (dval c : Int), .int .i64 0]) /\ w = w' := by
 have hsz : s.size = 1 := by rw [<- len_data, hs]; rfl
 have hpos : 0 < s.size := by omega
 have hsx : s[0]'hpos = c := by rw [<- data_get s 0 hpos (by rw [hs]; simp)]; simp [hs]
 have hemp : s.toList.isEmpty = false := by rw [ByteArray.toList_eq, hs]; rfl
 obtain ⟨m, hm⟩ : ∃ m : Int, ((s[0]'hpos).toNat : Int) = m := ⟨_, rfl⟩
 have hm0 : 0 <= m /\ m <= 255 := by have := (s[0]'hpos).toNat_lt; omega
 have hbm : bOf m = c := by rw [<- hm, bOf_cast, hsx]
 have hd := refdigit_any m hm0.1 hm0.2
 have hdg : dgI (bOf m) = (dval c : Int) := by rw [hbm]; unfold dgI; rw [if_pos hc]
 rw [hdg] at hd
 obtain ⟨d, hdd⟩ : ∃ d : Int, (dval c : Int) = d := ⟨_, rfl⟩
 have hd0 : 0 <= d /\ d < 16 := by have := dval_lt c hc; omega
 rw [hdd] at hd ⊢
 have HD := hid hd
 obtain rfl : s = ⟨#[c]⟩ := bytes_eq hs
 have hs0 : (⟨#[c]⟩ : ByteArray).size = 1 := rfl
 clear hd hdg hdd hbm hsx hs hc
 go_enter Tryz.func146, Tryz.ntmps146
 go_wp2
 go_loopw [4, 5] (fun q i wr => ((q = .int .i64 0 /\ i = .int .i64 0) ∨ (q = .int .i64 d /\ i = .int .i64 1)) /\ wr = w) (fun _ i _ => 1 - (intOf i).toNat)
 case atStart => exact ⟨.inl ⟨rfl, rfl⟩, rfl⟩
 obtain ⟨⟨rfl, rfl⟩ | ⟨rfl, rfl⟩, rfl⟩ := hrel
 ·go_wp2_with (go_at_call 149; refine (HD.out _).mono ?_; rintro e w1 ⟨rfl, rfl⟩)
  go_roundw
  case rel => exact ⟨.inr ⟨by go_num, by go_num⟩, by first | trivial | rfl⟩
  simp [intOf]
 go_wp2
 go_ret2
 exact ⟨rfl, rfl⟩
end Go.Proofs.YtkcnmjdomipbjaaGreat
