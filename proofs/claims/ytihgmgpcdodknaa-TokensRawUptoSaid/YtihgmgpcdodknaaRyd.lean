/- The pages' One. -/
import Derived.Test.YtihgmgpcdodknaaRyc
import Derived.Deep.QuietTactic
import Derived.BigQuiet
set_option linter.unusedVariables false
namespace Go.Proofs.Ytihgmgpcdodknaa
open Go.RowKit

def nameAt (k : Nat) : List UInt8 := match k with | 0 => [38, 97, 109, 112, 59] | 1 => [38, 108, 116, 59] | 2 => [38, 103, 116, 59] | 3 => [38, 113, 117, 111, 116, 59] | _ => [38, 97, 112, 111, 115, 59]
theorem namedL_none (s : List UInt8) (h : ∀ k, k < 5 → begL (nameAt k) s = false) : namedL s = none := by
  have h0 := h 0 (by omega)
  have h1 := h 1 (by omega)
  have h2 := h 2 (by omega)
  have h3 := h 3 (by omega)
  have h4 := h 4 (by omega)
  unfold begL nameAt at h0 h1 h2 h3 h4
  unfold namedL
  rw [Option.map_eq_none_iff, List.find?_eq_none]
  intro p hp
  simp only [names, List.mem_cons, List.not_mem_nil, or_false] at hp
  rcases hp with rfl | rfl | rfl | rfl | rfl <;> simp only [List.cons_append, List.nil_append] <;> simp_all
theorem beg_one (s : List UInt8) (k : Nat) (p : List UInt8 × UInt8) (hp : p ∈ names) (e : nameAt k = 38 :: (p.1 ++ [59])) (h : begL (nameAt k) s = true) : oneR s = ([p.2], p.1.length + 2) := by
  unfold begL at h
  rw [List.isPrefixOf_iff_prefix] at h
  obtain ⟨r, hr⟩ := h
  rw [← hr, e, mtch_one _ _ r (.inl ⟨p, hp, rfl, rfl⟩)]
  simp
theorem numL_other (s : List UInt8) (h : begL [38, 35] s = false) : numL s = ([], 0) := by
  unfold numL
  split
  · simp [begL, List.isPrefixOf] at h
  · rfl
/-- the tail: digits from a place on -/
theorem numT_run (l : List UInt8) (a : Nat) (hex : Bool) : numT hex (l.drop a) = if 1 ≤ runL l a hex ∧ runL l a hex ≤ 7 ∧ l[a + runL l a hex]? = some 59 then some (chrOf (valN (baseN hex) ((l.drop a).take (runL l a hex))), runL l a hex + 1) else none := by
  have hs := (takeWhile_split (digP hex) (l.drop a)).1
  have e : (l.drop a).take (runL l a hex) = (l.drop a).takeWhile (digP hex) := by
    conv => lhs; rw [hs]
    unfold runL
    rw [List.take_left]
  unfold numT
  rw [e, List.getElem?_drop]
  rfl
theorem run_digits (l : List UInt8) (a : Nat) (hex : Bool) : ((l.drop a).take (runL l a hex)).all (digP hex) = true := by
  have hs := takeWhile_split (digP hex) (l.drop a)
  have e : (l.drop a).take (runL l a hex) = (l.drop a).takeWhile (digP hex) := by
    conv => lhs; rw [hs.1]
    unfold runL
    rw [List.take_left]
  rw [e]; exact hs.2
theorem run_le (l : List UInt8) (a : Nat) (hex : Bool) : runL l a hex ≤ l.length - a := by
  have hs := (takeWhile_split (digP hex) (l.drop a)).1
  have := congrArg List.length hs
  rw [List.length_append, List.length_drop] at this
  unfold runL; omega
theorem digP_isH (hex : Bool) (c : UInt8) (h : digP hex c = true) : isH c = true := by
  unfold digP at h
  cases hex with
  | true => exact h
  | false => unfold isH; rw [show isD c = true from h]; rfl

set_option maxRecDepth 100000 in
set_option maxHeartbeats 3200000 in
theorem refOne_any (s : ByteArray) (w : World) (hs : s.size ≤ 1099511627776) :
    Calls Try.prog 43 #[.string s] w (RStrInt w (oneR s.data.toList).1 ((oneR s.data.toList).2 : Int)) := by
  have Hlen := hid (len_data s)
  have HBE := hid (fun (p : ByteArray) (hp : p.size ≤ 1099511627776) (w : World) => begins_any p s w hp hs)
  go_enter Try.func43, Try.ntmps43
  go_wp2
  go_loopw [5] (fun i wr => ∃ k : Nat, k ≤ 5 ∧ i = .int .i64 k ∧ Hid (∀ j, j < k → begL (nameAt j) s.data.toList = false) ∧ wr = w.alloc (.cells #[.string ⟨#[38, 97, 109, 112, 59]⟩, .string ⟨#[38, 108, 116, 59]⟩, .string ⟨#[38, 103, 116, 59]⟩, .string ⟨#[38, 113, 117, 111, 116, 59]⟩, .string ⟨#[38, 97, 112, 111, 115, 59]⟩] 9)) (fun i _ => 5 - (intOf i).toNat)
  case atStart => exact ⟨0, by omega, rfl, hid (fun j h => absurd h (by omega)), rfl⟩
  case round =>
    obtain ⟨k, hk, rfl, hr, rfl⟩ := hrel
    rcases (show k = 0 ∨ k = 1 ∨ k = 2 ∨ k = 3 ∨ k = 4 ∨ k = 5 by omega) with rfl | rfl | rfl | rfl | rfl | rfl
    · go_wp2_with fail
      refine (HBE.out _ (by simp [ByteArray.size]) _).mono ?_
      rintro e w1 ⟨rfl, rfl⟩
      obtain ⟨q, hq⟩ : ∃ q, begL (⟨#[38, 97, 109, 112, 59]⟩ : ByteArray).data.toList s.data.toList = q := ⟨_, rfl⟩
      rw [hq]
      have Hq := hid hq
      clear hq
      cases q with
      | true =>
        have HO := hid (beg_one s.data.toList 0 ([97, 109, 112], 38) (by simp [names]) rfl Hq.out)
        go_wp2_with (go_quiet (fail))
        go_ret2
        exact ⟨_, _, rfl, hid (by rw [HO.out]; rfl), hid (by rw [HO.out]; rfl), below_drewN (by go_grown) _⟩
      | false =>
        go_wp2
        go_roundw
        case rel =>
          refine ⟨0 + 1, by omega, by go_num, hid (fun j h => ?_), by first | trivial | rfl⟩
          rcases Nat.lt_or_ge j 0 with hj | hj
          · exact hr.out j hj
          · obtain rfl : j = 0 := by omega
            exact Hq.out
        case measure => simp [intOf]
    · go_wp2_with fail
      refine (HBE.out _ (by simp [ByteArray.size]) _).mono ?_
      rintro e w1 ⟨rfl, rfl⟩
      obtain ⟨q, hq⟩ : ∃ q, begL (⟨#[38, 108, 116, 59]⟩ : ByteArray).data.toList s.data.toList = q := ⟨_, rfl⟩
      rw [hq]
      have Hq := hid hq
      clear hq
      cases q with
      | true =>
        have HO := hid (beg_one s.data.toList 1 ([108, 116], 60) (by simp [names]) rfl Hq.out)
        go_wp2_with (go_quiet (fail))
        go_ret2
        exact ⟨_, _, rfl, hid (by rw [HO.out]; rfl), hid (by rw [HO.out]; rfl), below_drewN (by go_grown) _⟩
      | false =>
        go_wp2
        go_roundw
        case rel =>
          refine ⟨1 + 1, by omega, by go_num, hid (fun j h => ?_), by first | trivial | rfl⟩
          rcases Nat.lt_or_ge j 1 with hj | hj
          · exact hr.out j hj
          · obtain rfl : j = 1 := by omega
            exact Hq.out
        case measure => simp [intOf]
    · go_wp2_with fail
      refine (HBE.out _ (by simp [ByteArray.size]) _).mono ?_
      rintro e w1 ⟨rfl, rfl⟩
      obtain ⟨q, hq⟩ : ∃ q, begL (⟨#[38, 103, 116, 59]⟩ : ByteArray).data.toList s.data.toList = q := ⟨_, rfl⟩
      rw [hq]
      have Hq := hid hq
      clear hq
      cases q with
      | true =>
        have HO := hid (beg_one s.data.toList 2 ([103, 116], 62) (by simp [names]) rfl Hq.out)
        go_wp2_with (go_quiet (fail))
        go_ret2
        exact ⟨_, _, rfl, hid (by rw [HO.out]; rfl), hid (by rw [HO.out]; rfl), below_drewN (by go_grown) _⟩
      | false =>
        go_wp2
        go_roundw
        case rel =>
          refine ⟨2 + 1, by omega, by go_num, hid (fun j h => ?_), by first | trivial | rfl⟩
          rcases Nat.lt_or_ge j 2 with hj | hj
          · exact hr.out j hj
          · obtain rfl : j = 2 := by omega
            exact Hq.out
        case measure => simp [intOf]
    · go_wp2_with fail
      refine (HBE.out _ (by simp [ByteArray.size]) _).mono ?_
      rintro e w1 ⟨rfl, rfl⟩
      obtain ⟨q, hq⟩ : ∃ q, begL (⟨#[38, 113, 117, 111, 116, 59]⟩ : ByteArray).data.toList s.data.toList = q := ⟨_, rfl⟩
      rw [hq]
      have Hq := hid hq
      clear hq
      cases q with
      | true =>
        have HO := hid (beg_one s.data.toList 3 ([113, 117, 111, 116], 34) (by simp [names]) rfl Hq.out)
        go_wp2_with (go_quiet (fail))
        go_ret2
        exact ⟨_, _, rfl, hid (by rw [HO.out]; rfl), hid (by rw [HO.out]; rfl), below_drewN (by go_grown) _⟩
      | false =>
        go_wp2
        go_roundw
        case rel =>
          refine ⟨3 + 1, by omega, by go_num, hid (fun j h => ?_), by first | trivial | rfl⟩
          rcases Nat.lt_or_ge j 3 with hj | hj
          · exact hr.out j hj
          · obtain rfl : j = 3 := by omega
            exact Hq.out
        case measure => simp [intOf]
    · go_wp2_with fail
      refine (HBE.out _ (by simp [ByteArray.size]) _).mono ?_
      rintro e w1 ⟨rfl, rfl⟩
      obtain ⟨q, hq⟩ : ∃ q, begL (⟨#[38, 97, 112, 111, 115, 59]⟩ : ByteArray).data.toList s.data.toList = q := ⟨_, rfl⟩
      rw [hq]
      have Hq := hid hq
      clear hq
      cases q with
      | true =>
        have HO := hid (beg_one s.data.toList 4 ([97, 112, 111, 115], 39) (by simp [names]) rfl Hq.out)
        go_wp2_with (go_quiet (fail))
        go_ret2
        exact ⟨_, _, rfl, hid (by rw [HO.out]; rfl), hid (by rw [HO.out]; rfl), below_drewN (by go_grown) _⟩
      | false =>
        go_wp2
        go_roundw
        case rel =>
          refine ⟨4 + 1, by omega, by go_num, hid (fun j h => ?_), by first | trivial | rfl⟩
          rcases Nat.lt_or_ge j 4 with hj | hj
          · exact hr.out j hj
          · obtain rfl : j = 4 := by omega
            exact Hq.out
        case measure => simp [intOf]
    · have HN := hid (namedL_none s.data.toList hr.out)
      have HO1 : Hid (oneR s.data.toList = numL s.data.toList) := hid (by unfold oneR; rw [HN.out])
      have hbw : Below w.heap.size w (w.alloc (.cells #[.string ⟨#[38, 97, 109, 112, 59]⟩, .string ⟨#[38, 108, 116, 59]⟩, .string ⟨#[38, 103, 116, 59]⟩, .string ⟨#[38, 113, 117, 111, 116, 59]⟩, .string ⟨#[38, 97, 112, 111, 115, 59]⟩] 9)) := by go_grown
      obtain ⟨W, hW⟩ : ∃ W, w.alloc (.cells #[.string ⟨#[38, 97, 109, 112, 59]⟩, .string ⟨#[38, 108, 116, 59]⟩, .string ⟨#[38, 103, 116, 59]⟩, .string ⟨#[38, 113, 117, 111, 116, 59]⟩, .string ⟨#[38, 97, 112, 111, 115, 59]⟩] 9) = W := ⟨_, rfl⟩
      rw [hW] at hbw ⊢
      clear hW
      go_wp2_with fail
      refine (HBE.out _ (by simp [ByteArray.size]) _).mono ?_
      rintro e w1 ⟨rfl, rfl⟩
      obtain ⟨q, hq⟩ : ∃ q, begL (⟨#[38, 35]⟩ : ByteArray).data.toList s.data.toList = q := ⟨_, rfl⟩
      rw [hq]
      have Hq := hid hq
      clear hq
      cases q with
      | false =>
        have HO := hid (numL_other s.data.toList Hq.out)
        go_wp2
        go_ret2
        exact ⟨_, _, rfl, hid (by rw [HO1.out, HO.out]), hid (by rw [HO1.out, HO.out]; rfl), hbw⟩
      | true =>
        obtain ⟨t, ht⟩ : ∃ t, s.data.toList = 38 :: 35 :: t := by
          have := Hq.out
          unfold begL at this
          rw [List.isPrefixOf_iff_prefix] at this
          obtain ⟨r, hr⟩ := this
          exact ⟨r, hr.symm⟩
        have hsz2 : s.size = t.length + 2 := by rw [← Hlen.out, ht]; simp
        have Ht := hid ht
        cases t with
        | nil =>
          have hR : runL s.data.toList 2 false = 0 := by rw [ht]; rfl
          have hrun := fun w => run_any s 2 false w hs (by rw [hsz2]; simp)
          rw [hR] at hrun
          have Hrun := hid hrun
          have hsz3 : (s.size : Int) = 2 := by rw [hsz2]; rfl
          clear hrun hR ht hsz2
          go_wp2_with (go_at_call 64; refine (Hrun.out _).mono ?_; rintro e w1 ⟨rfl, rfl⟩)
          go_ret2
          exact ⟨_, _, rfl, hid (by rw [HO1.out, Ht.out]; rfl), hid (by rw [HO1.out, Ht.out]; rfl), hbw⟩
        | cons c u =>
          have hsz3 : 2 < s.size := by rw [hsz2]; simp
          clear hsz2
          have hsc : s[2]'hsz3 = c := by rw [← data_get s 2 hsz3 (by rw [Hlen.out]; exact hsz3)]; simp [ht]
          obtain ⟨m, hm⟩ : ∃ m : Int, ((s[2]'hsz3).toNat : Int) = m := ⟨_, rfl⟩
          have hm0 : 0 ≤ m ∧ m ≤ 255 := by have := (s[2]'hsz3).toNat_lt; omega
          have hX : isX c = ((m == 120) || (m == 88)) := by
            have := byte_all (p := fun c n => isX c = ((n == 120) || (n == 88))) (by decide +kernel) m hm0.1 hm0.2
            rw [← hm, bOf_cast, hm, hsc] at this; exact this
          cases hx : isX c with
          | true =>
            rw [hx] at hX
            have HX := hid hx
            have hmx : m = 120 ∨ m = 88 := by
              have := hX.symm
              rw [Bool.or_eq_true, beq_iff_eq, beq_iff_eq] at this; exact this
            clear hX hsc ht hx
            rcases hmx with rfl | rfl
            · have hdrop : s.data.toList.drop 3 = u := by rw [Ht.out]; rfl
              have hnum : oneR s.data.toList = (match numT true (s.data.toList.drop 3) with | some (x, k) => (x, k + 3) | none => ([], 0)) := by
                rw [HO1.out, hdrop, Ht.out]; simp only [numL]; rw [HX.out]; rfl
              have HNum := hid hnum
              have HT := hid (numT_run s.data.toList 3 true)
              have Hdig := hid (run_digits s.data.toList 3 true)
              have hrl := run_le s.data.toList 3 true
              rw [Hlen.out] at hrl
              have hrun := fun w => run_any s 3 true w hs (by omega)
              obtain ⟨n, hn⟩ : ∃ n, runL s.data.toList 3 true = n := ⟨_, rfl⟩
              rw [hn] at hrl HT Hdig
              simp only [hn] at hrun
              have Hrun := hid hrun
              clear hn hrun hdrop hnum
              by_cases hn0 : n = 0
              · subst hn0
                have HO : Hid (oneR s.data.toList = ([], 0)) := hid (by rw [HNum.out, HT.out, if_neg (by omega)])
                go_wp2_with (go_at_call 64; refine (Hrun.out _).mono ?_; rintro e w1 ⟨rfl, rfl⟩)
                go_ret2
                exact ⟨_, _, rfl, hid (by rw [HO.out]), hid (by rw [HO.out]; rfl), hbw⟩
              by_cases hn7 : 7 < n
              · have HO : Hid (oneR s.data.toList = ([], 0)) := hid (by rw [HNum.out, HT.out, if_neg (by omega)])
                go_wp2_with (go_at_call 64; refine (Hrun.out _).mono ?_; rintro e w1 ⟨rfl, rfl⟩)
                go_ret2
                exact ⟨_, _, rfl, hid (by rw [HO.out]), hid (by rw [HO.out]; rfl), hbw⟩
              by_cases hend : s.size ≤ 3 + n
              · have HO : Hid (oneR s.data.toList = ([], 0)) := hid (by
                  rw [HNum.out, HT.out, if_neg]
                  rintro ⟨_, _, h⟩
                  rw [List.getElem?_eq_none (by rw [Hlen.out]; exact hend)] at h; cases h)
                go_wp2_with (go_at_call 64; refine (Hrun.out _).mono ?_; rintro e w1 ⟨rfl, rfl⟩)
                go_ret2
                exact ⟨_, _, rfl, hid (by rw [HO.out]), hid (by rw [HO.out]; rfl), hbw⟩
              have hlt : 3 + n < s.size := by omega
              have hdl : 3 + n < s.data.toList.length := by rw [Hlen.out]; exact hlt
              obtain ⟨y, hy⟩ : ∃ y : Int, ((s[3 + n]'hlt).toNat : Int) = y := ⟨_, rfl⟩
              have hget : Hid (s.data.toList[3 + n]? = some (s[3 + n]'hlt)) := hid (by rw [List.getElem?_eq_getElem hdl, data_get s (3 + n) hlt hdl])
              by_cases hy59 : y = 59
              · subst hy59
                have hg2 : s.data.toList[3 + n]? = some 59 := by
                  rw [hget.out]; congr 1
                  exact UInt8.toNat_inj.1 (by have : (59 : UInt8).toNat = 59 := rfl; omega)
                have HO : Hid (oneR s.data.toList = (chrOf (valN (baseN true) ((s.data.toList.drop 3).take n)), n + 1 + 3)) := hid (by
                  rw [HNum.out, HT.out, if_pos ⟨by omega, by omega, hg2⟩])
                have hxd : (s.extract 3 (3 + n)).data.toList = (s.data.toList.drop 3).take n := by rw [data_extract, List.drop_take]; congr 1; omega
                have hxs : (s.extract 3 (3 + n)).size = n := by rw [ByteArray.size_extract]; omega
                have hall : ∀ c ∈ (s.data.toList.drop 3).take n, isH c = true := fun c hc => digP_isH true c (List.all_eq_true.1 Hdig.out c hc)
                have hnb := fun w => number_any (s.extract 3 (3 + n)) true w (by omega) (by rw [hxd, List.all_eq_true]; exact hall)
                obtain ⟨v, hv⟩ : ∃ v, valN (baseN true) ((s.data.toList.drop 3).take n) = v := ⟨_, rfl⟩
                rw [hxd, hv] at hnb
                have hvl : v < 536870912 := by
                  have hl : ((s.data.toList.drop 3).take n).length = n := by rw [List.length_take, List.length_drop, Hlen.out]; omega
                  have := valN_lt (baseN true) (by decide) n _ hl (fun c hc => dval_lt c (hall c hc))
                  have h7 : 16 ^ n ≤ 16 ^ 7 := Nat.pow_le_pow_right (by omega) (by omega)
                  omega
                rw [hv] at HO
                obtain ⟨z, hz⟩ : ∃ z : Int, (v : Int) = z := ⟨_, rfl⟩
                have hz0 : 0 ≤ z ∧ z < 536870912 := by omega
                have Hz := hid hz
                rw [hz] at hnb
                have Hnb := hid hnb
                clear hnb hv hvl hz hxd hxs hall hg2
                go_wp2_with (first | (go_at_call 64; refine (Hrun.out _).mono ?_; rintro e w1 ⟨rfl, rfl⟩) | (go_at_call 65; refine (Hnb.out _).mono ?_; rintro e w1 ⟨rfl, rfl⟩))
                refine (refEncode_any z (by omega) (by omega) _).mono ?_
                rintro e w2 ⟨t3, r3, rfl, ht3, hr3, hb3⟩
                have hbb := after hbw hb3 hbw.size
                have HO2 : Hid ((((oneR s.data.toList).2 : Nat) : Int) = 3 + n + 1) := hid (by rw [HO.out]; show ((n + 1 + 3 : Nat) : Int) = _; omega)
                cases hok : encOk z with
                | false =>
                  have hcb := chrOf_bad v (by rw [Hz.out]; exact hok)
                  rw [Hz.out] at hcb
                  obtain rfl : r3 = 4 := by rw [hr3.out]; exact hcb.2
                  have Hcb := hid hcb
                  clear hcb hok
                  go_wp2_with fail
                  refine (refEncode_any 65533 (by omega) (by omega) _).mono ?_
                  rintro e w3 ⟨t4, r4, rfl, ht4, hr4, hb4⟩
                  go_wp2
                  go_ret2
                  exact ⟨_, _, rfl, hid (by rw [HO.out, ht4.out]; exact Hcb.out.1.symm), hid (by rw [HO2.out]), after hbb hb4 hbb.size⟩
                | true =>
                  by_cases hz1 : z = 0
                  · subst hz1
                    have hn0 : v = 0 := by have := Hz.out; omega
                    obtain rfl : r3 = 0 := by rw [hr3.out]; rfl
                    have Hcb : Hid (chrOf v = [239, 191, 189]) := hid (by rw [hn0]; rfl)
                    clear hok
                    go_wp2_with fail
                    refine (refEncode_any 65533 (by omega) (by omega) _).mono ?_
                    rintro e w3 ⟨t4, r4, rfl, ht4, hr4, hb4⟩
                    go_wp2
                    go_ret2
                    exact ⟨_, _, rfl, hid (by rw [HO.out, ht4.out]; exact Hcb.out.symm), hid (by rw [HO2.out]), after hbb hb4 hbb.size⟩
                  · have hcb := chrOf_ok v (by rw [Hz.out]; exact hok) (by have := Hz.out; omega)
                    rw [Hz.out] at hcb
                    obtain rfl : r3 = 0 := by rw [hr3.out]; exact hcb.2
                    have Hcb := hid hcb
                    clear hcb hok
                    go_wp2
                    go_ret2
                    exact ⟨_, _, rfl, hid (by rw [HO.out, ht3.out]; exact Hcb.out.1.symm), hid (by rw [HO2.out]), hbb⟩
              · have HO : Hid (oneR s.data.toList = ([], 0)) := hid (by
                  rw [HNum.out, HT.out, if_neg]
                  rintro ⟨_, _, h⟩
                  rw [hget.out] at h
                  injection h with h
                  rw [h] at hy
                  exact hy59 hy.symm)
                have hyne : (y == 59) = false := beq_eq_false_iff_ne.2 hy59
                have hyne2 : (y != 59) = true := bne_iff_ne.2 hy59
                go_wp2_with (go_at_call 64; refine (Hrun.out _).mono ?_; rintro e w1 ⟨rfl, rfl⟩)
                go_ret2
                exact ⟨_, _, rfl, hid (by rw [HO.out]), hid (by rw [HO.out]; rfl), hbw⟩
            · have hdrop : s.data.toList.drop 3 = u := by rw [Ht.out]; rfl
              have hnum : oneR s.data.toList = (match numT true (s.data.toList.drop 3) with | some (x, k) => (x, k + 3) | none => ([], 0)) := by
                rw [HO1.out, hdrop, Ht.out]; simp only [numL]; rw [HX.out]; rfl
              have HNum := hid hnum
              have HT := hid (numT_run s.data.toList 3 true)
              have Hdig := hid (run_digits s.data.toList 3 true)
              have hrl := run_le s.data.toList 3 true
              rw [Hlen.out] at hrl
              have hrun := fun w => run_any s 3 true w hs (by omega)
              obtain ⟨n, hn⟩ : ∃ n, runL s.data.toList 3 true = n := ⟨_, rfl⟩
              rw [hn] at hrl HT Hdig
              simp only [hn] at hrun
              have Hrun := hid hrun
              clear hn hrun hdrop hnum
              by_cases hn0 : n = 0
              · subst hn0
                have HO : Hid (oneR s.data.toList = ([], 0)) := hid (by rw [HNum.out, HT.out, if_neg (by omega)])
                go_wp2_with (go_at_call 64; refine (Hrun.out _).mono ?_; rintro e w1 ⟨rfl, rfl⟩)
                go_ret2
                exact ⟨_, _, rfl, hid (by rw [HO.out]), hid (by rw [HO.out]; rfl), hbw⟩
              by_cases hn7 : 7 < n
              · have HO : Hid (oneR s.data.toList = ([], 0)) := hid (by rw [HNum.out, HT.out, if_neg (by omega)])
                go_wp2_with (go_at_call 64; refine (Hrun.out _).mono ?_; rintro e w1 ⟨rfl, rfl⟩)
                go_ret2
                exact ⟨_, _, rfl, hid (by rw [HO.out]), hid (by rw [HO.out]; rfl), hbw⟩
              by_cases hend : s.size ≤ 3 + n
              · have HO : Hid (oneR s.data.toList = ([], 0)) := hid (by
                  rw [HNum.out, HT.out, if_neg]
                  rintro ⟨_, _, h⟩
                  rw [List.getElem?_eq_none (by rw [Hlen.out]; exact hend)] at h; cases h)
                go_wp2_with (go_at_call 64; refine (Hrun.out _).mono ?_; rintro e w1 ⟨rfl, rfl⟩)
                go_ret2
                exact ⟨_, _, rfl, hid (by rw [HO.out]), hid (by rw [HO.out]; rfl), hbw⟩
              have hlt : 3 + n < s.size := by omega
              have hdl : 3 + n < s.data.toList.length := by rw [Hlen.out]; exact hlt
              obtain ⟨y, hy⟩ : ∃ y : Int, ((s[3 + n]'hlt).toNat : Int) = y := ⟨_, rfl⟩
              have hget : Hid (s.data.toList[3 + n]? = some (s[3 + n]'hlt)) := hid (by rw [List.getElem?_eq_getElem hdl, data_get s (3 + n) hlt hdl])
              by_cases hy59 : y = 59
              · subst hy59
                have hg2 : s.data.toList[3 + n]? = some 59 := by
                  rw [hget.out]; congr 1
                  exact UInt8.toNat_inj.1 (by have : (59 : UInt8).toNat = 59 := rfl; omega)
                have HO : Hid (oneR s.data.toList = (chrOf (valN (baseN true) ((s.data.toList.drop 3).take n)), n + 1 + 3)) := hid (by
                  rw [HNum.out, HT.out, if_pos ⟨by omega, by omega, hg2⟩])
                have hxd : (s.extract 3 (3 + n)).data.toList = (s.data.toList.drop 3).take n := by rw [data_extract, List.drop_take]; congr 1; omega
                have hxs : (s.extract 3 (3 + n)).size = n := by rw [ByteArray.size_extract]; omega
                have hall : ∀ c ∈ (s.data.toList.drop 3).take n, isH c = true := fun c hc => digP_isH true c (List.all_eq_true.1 Hdig.out c hc)
                have hnb := fun w => number_any (s.extract 3 (3 + n)) true w (by omega) (by rw [hxd, List.all_eq_true]; exact hall)
                obtain ⟨v, hv⟩ : ∃ v, valN (baseN true) ((s.data.toList.drop 3).take n) = v := ⟨_, rfl⟩
                rw [hxd, hv] at hnb
                have hvl : v < 536870912 := by
                  have hl : ((s.data.toList.drop 3).take n).length = n := by rw [List.length_take, List.length_drop, Hlen.out]; omega
                  have := valN_lt (baseN true) (by decide) n _ hl (fun c hc => dval_lt c (hall c hc))
                  have h7 : 16 ^ n ≤ 16 ^ 7 := Nat.pow_le_pow_right (by omega) (by omega)
                  omega
                rw [hv] at HO
                obtain ⟨z, hz⟩ : ∃ z : Int, (v : Int) = z := ⟨_, rfl⟩
                have hz0 : 0 ≤ z ∧ z < 536870912 := by omega
                have Hz := hid hz
                rw [hz] at hnb
                have Hnb := hid hnb
                clear hnb hv hvl hz hxd hxs hall hg2
                go_wp2_with (first | (go_at_call 64; refine (Hrun.out _).mono ?_; rintro e w1 ⟨rfl, rfl⟩) | (go_at_call 65; refine (Hnb.out _).mono ?_; rintro e w1 ⟨rfl, rfl⟩))
                refine (refEncode_any z (by omega) (by omega) _).mono ?_
                rintro e w2 ⟨t3, r3, rfl, ht3, hr3, hb3⟩
                have hbb := after hbw hb3 hbw.size
                have HO2 : Hid ((((oneR s.data.toList).2 : Nat) : Int) = 3 + n + 1) := hid (by rw [HO.out]; show ((n + 1 + 3 : Nat) : Int) = _; omega)
                cases hok : encOk z with
                | false =>
                  have hcb := chrOf_bad v (by rw [Hz.out]; exact hok)
                  rw [Hz.out] at hcb
                  obtain rfl : r3 = 4 := by rw [hr3.out]; exact hcb.2
                  have Hcb := hid hcb
                  clear hcb hok
                  go_wp2_with fail
                  refine (refEncode_any 65533 (by omega) (by omega) _).mono ?_
                  rintro e w3 ⟨t4, r4, rfl, ht4, hr4, hb4⟩
                  go_wp2
                  go_ret2
                  exact ⟨_, _, rfl, hid (by rw [HO.out, ht4.out]; exact Hcb.out.1.symm), hid (by rw [HO2.out]), after hbb hb4 hbb.size⟩
                | true =>
                  by_cases hz1 : z = 0
                  · subst hz1
                    have hn0 : v = 0 := by have := Hz.out; omega
                    obtain rfl : r3 = 0 := by rw [hr3.out]; rfl
                    have Hcb : Hid (chrOf v = [239, 191, 189]) := hid (by rw [hn0]; rfl)
                    clear hok
                    go_wp2_with fail
                    refine (refEncode_any 65533 (by omega) (by omega) _).mono ?_
                    rintro e w3 ⟨t4, r4, rfl, ht4, hr4, hb4⟩
                    go_wp2
                    go_ret2
                    exact ⟨_, _, rfl, hid (by rw [HO.out, ht4.out]; exact Hcb.out.symm), hid (by rw [HO2.out]), after hbb hb4 hbb.size⟩
                  · have hcb := chrOf_ok v (by rw [Hz.out]; exact hok) (by have := Hz.out; omega)
                    rw [Hz.out] at hcb
                    obtain rfl : r3 = 0 := by rw [hr3.out]; exact hcb.2
                    have Hcb := hid hcb
                    clear hcb hok
                    go_wp2
                    go_ret2
                    exact ⟨_, _, rfl, hid (by rw [HO.out, ht3.out]; exact Hcb.out.1.symm), hid (by rw [HO2.out]), hbb⟩
              · have HO : Hid (oneR s.data.toList = ([], 0)) := hid (by
                  rw [HNum.out, HT.out, if_neg]
                  rintro ⟨_, _, h⟩
                  rw [hget.out] at h
                  injection h with h
                  rw [h] at hy
                  exact hy59 hy.symm)
                have hyne : (y == 59) = false := beq_eq_false_iff_ne.2 hy59
                have hyne2 : (y != 59) = true := bne_iff_ne.2 hy59
                go_wp2_with (go_at_call 64; refine (Hrun.out _).mono ?_; rintro e w1 ⟨rfl, rfl⟩)
                go_ret2
                exact ⟨_, _, rfl, hid (by rw [HO.out]), hid (by rw [HO.out]; rfl), hbw⟩
          | false =>
            rw [hx] at hX
            have HX := hid hx
            have hm1 : (m == 120) = false ∧ (m == 88) = false := by
              have := hX.symm
              rw [Bool.or_eq_false_iff] at this; exact this
            obtain ⟨hm1, hm2⟩ := hm1
            clear hX hsc ht hx
            have hdrop : s.data.toList.drop 2 = c :: u := by rw [Ht.out]; rfl
            have hnum : oneR s.data.toList = (match numT false (s.data.toList.drop 2) with | some (x, k) => (x, k + 2) | none => ([], 0)) := by
              rw [HO1.out, hdrop, Ht.out]; simp only [numL]; rw [HX.out]; rfl
            have HNum := hid hnum
            have HT := hid (numT_run s.data.toList 2 false)
            have Hdig := hid (run_digits s.data.toList 2 false)
            have hrl := run_le s.data.toList 2 false
            rw [Hlen.out] at hrl
            have hrun := fun w => run_any s 2 false w hs (by omega)
            obtain ⟨n, hn⟩ : ∃ n, runL s.data.toList 2 false = n := ⟨_, rfl⟩
            rw [hn] at hrl HT Hdig
            simp only [hn] at hrun
            have Hrun := hid hrun
            clear hn hrun hdrop hnum
            by_cases hn0 : n = 0
            · subst hn0
              have HO : Hid (oneR s.data.toList = ([], 0)) := hid (by rw [HNum.out, HT.out, if_neg (by omega)])
              go_wp2_with (go_at_call 64; refine (Hrun.out _).mono ?_; rintro e w1 ⟨rfl, rfl⟩)
              go_ret2
              exact ⟨_, _, rfl, hid (by rw [HO.out]), hid (by rw [HO.out]; rfl), hbw⟩
            by_cases hn7 : 7 < n
            · have HO : Hid (oneR s.data.toList = ([], 0)) := hid (by rw [HNum.out, HT.out, if_neg (by omega)])
              go_wp2_with (go_at_call 64; refine (Hrun.out _).mono ?_; rintro e w1 ⟨rfl, rfl⟩)
              go_ret2
              exact ⟨_, _, rfl, hid (by rw [HO.out]), hid (by rw [HO.out]; rfl), hbw⟩
            by_cases hend : s.size ≤ 2 + n
            · have HO : Hid (oneR s.data.toList = ([], 0)) := hid (by
                rw [HNum.out, HT.out, if_neg]
                rintro ⟨_, _, h⟩
                rw [List.getElem?_eq_none (by rw [Hlen.out]; exact hend)] at h; cases h)
              go_wp2_with (go_at_call 64; refine (Hrun.out _).mono ?_; rintro e w1 ⟨rfl, rfl⟩)
              go_ret2
              exact ⟨_, _, rfl, hid (by rw [HO.out]), hid (by rw [HO.out]; rfl), hbw⟩
            have hlt : 2 + n < s.size := by omega
            have hdl : 2 + n < s.data.toList.length := by rw [Hlen.out]; exact hlt
            obtain ⟨y, hy⟩ : ∃ y : Int, ((s[2 + n]'hlt).toNat : Int) = y := ⟨_, rfl⟩
            have hget : Hid (s.data.toList[2 + n]? = some (s[2 + n]'hlt)) := hid (by rw [List.getElem?_eq_getElem hdl, data_get s (2 + n) hlt hdl])
            by_cases hy59 : y = 59
            · subst hy59
              have hg2 : s.data.toList[2 + n]? = some 59 := by
                rw [hget.out]; congr 1
                exact UInt8.toNat_inj.1 (by have : (59 : UInt8).toNat = 59 := rfl; omega)
              have HO : Hid (oneR s.data.toList = (chrOf (valN (baseN false) ((s.data.toList.drop 2).take n)), n + 1 + 2)) := hid (by
                rw [HNum.out, HT.out, if_pos ⟨by omega, by omega, hg2⟩])
              have hxd : (s.extract 2 (2 + n)).data.toList = (s.data.toList.drop 2).take n := by rw [data_extract, List.drop_take]; congr 1; omega
              have hxs : (s.extract 2 (2 + n)).size = n := by rw [ByteArray.size_extract]; omega
              have hall : ∀ c ∈ (s.data.toList.drop 2).take n, isH c = true := fun c hc => digP_isH false c (List.all_eq_true.1 Hdig.out c hc)
              have hnb := fun w => number_any (s.extract 2 (2 + n)) false w (by omega) (by rw [hxd, List.all_eq_true]; exact hall)
              obtain ⟨v, hv⟩ : ∃ v, valN (baseN false) ((s.data.toList.drop 2).take n) = v := ⟨_, rfl⟩
              rw [hxd, hv] at hnb
              have hvl : v < 536870912 := by
                have hl : ((s.data.toList.drop 2).take n).length = n := by rw [List.length_take, List.length_drop, Hlen.out]; omega
                have := valN_lt (baseN false) (by decide) n _ hl (fun c hc => dval_lt c (hall c hc))
                have h7 : 16 ^ n ≤ 16 ^ 7 := Nat.pow_le_pow_right (by omega) (by omega)
                omega
              rw [hv] at HO
              obtain ⟨z, hz⟩ : ∃ z : Int, (v : Int) = z := ⟨_, rfl⟩
              have hz0 : 0 ≤ z ∧ z < 536870912 := by omega
              have Hz := hid hz
              rw [hz] at hnb
              have Hnb := hid hnb
              clear hnb hv hvl hz hxd hxs hall hg2
              go_wp2_with (first | (go_at_call 64; refine (Hrun.out _).mono ?_; rintro e w1 ⟨rfl, rfl⟩) | (go_at_call 65; refine (Hnb.out _).mono ?_; rintro e w1 ⟨rfl, rfl⟩))
              refine (refEncode_any z (by omega) (by omega) _).mono ?_
              rintro e w2 ⟨t3, r3, rfl, ht3, hr3, hb3⟩
              have hbb := after hbw hb3 hbw.size
              have HO2 : Hid ((((oneR s.data.toList).2 : Nat) : Int) = 2 + n + 1) := hid (by rw [HO.out]; show ((n + 1 + 2 : Nat) : Int) = _; omega)
              cases hok : encOk z with
              | false =>
                have hcb := chrOf_bad v (by rw [Hz.out]; exact hok)
                rw [Hz.out] at hcb
                obtain rfl : r3 = 4 := by rw [hr3.out]; exact hcb.2
                have Hcb := hid hcb
                clear hcb hok
                go_wp2_with fail
                refine (refEncode_any 65533 (by omega) (by omega) _).mono ?_
                rintro e w3 ⟨t4, r4, rfl, ht4, hr4, hb4⟩
                go_wp2
                go_ret2
                exact ⟨_, _, rfl, hid (by rw [HO.out, ht4.out]; exact Hcb.out.1.symm), hid (by rw [HO2.out]), after hbb hb4 hbb.size⟩
              | true =>
                by_cases hz1 : z = 0
                · subst hz1
                  have hn0 : v = 0 := by have := Hz.out; omega
                  obtain rfl : r3 = 0 := by rw [hr3.out]; rfl
                  have Hcb : Hid (chrOf v = [239, 191, 189]) := hid (by rw [hn0]; rfl)
                  clear hok
                  go_wp2_with fail
                  refine (refEncode_any 65533 (by omega) (by omega) _).mono ?_
                  rintro e w3 ⟨t4, r4, rfl, ht4, hr4, hb4⟩
                  go_wp2
                  go_ret2
                  exact ⟨_, _, rfl, hid (by rw [HO.out, ht4.out]; exact Hcb.out.symm), hid (by rw [HO2.out]), after hbb hb4 hbb.size⟩
                · have hcb := chrOf_ok v (by rw [Hz.out]; exact hok) (by have := Hz.out; omega)
                  rw [Hz.out] at hcb
                  obtain rfl : r3 = 0 := by rw [hr3.out]; exact hcb.2
                  have Hcb := hid hcb
                  clear hcb hok
                  go_wp2
                  go_ret2
                  exact ⟨_, _, rfl, hid (by rw [HO.out, ht3.out]; exact Hcb.out.1.symm), hid (by rw [HO2.out]), hbb⟩
            · have HO : Hid (oneR s.data.toList = ([], 0)) := hid (by
                rw [HNum.out, HT.out, if_neg]
                rintro ⟨_, _, h⟩
                rw [hget.out] at h
                injection h with h
                rw [h] at hy
                exact hy59 hy.symm)
              have hyne : (y == 59) = false := beq_eq_false_iff_ne.2 hy59
              have hyne2 : (y != 59) = true := bne_iff_ne.2 hy59
              go_wp2_with (go_at_call 64; refine (Hrun.out _).mono ?_; rintro e w1 ⟨rfl, rfl⟩)
              go_ret2
              exact ⟨_, _, rfl, hid (by rw [HO.out]), hid (by rw [HO.out]; rfl), hbw⟩
end Go.Proofs.Ytihgmgpcdodknaa
