/- The pages' Unfinished. -/
import Derived.Test.YtihgmgpcdodknaaDoorRef6g
set_option linter.unusedVariables false
namespace Go.Proofs.YtihgmgpcdodknaaDoor
open Go.RowKit

theorem num_run (l : List UInt8) (a : Nat) (hex : Bool) (ha : a ≤ l.length) : numericL (l.drop a) hex = (decide (runL l a hex ≤ 7) && decide (a + runL l a hex = l.length)) := by
  have hs := takeWhile_split (digP hex) (l.drop a)
  have hl := run_le l a hex
  have hall : (l.drop a).all (digP hex) = decide (a + runL l a hex = l.length) := by
    rw [Bool.eq_iff_iff, decide_eq_true_iff]
    constructor
    · intro h
      exact by
        have := run_all l a (l.length - a) hex (by rw [List.take_of_length_le (by rw [List.length_drop]; exact Nat.le_refl _)]; exact h) (by omega)
        omega
    · intro h
      have h1 := run_digits l a hex
      rw [List.take_of_length_le (by rw [List.length_drop]; omega)] at h1
      exact h1
  unfold numericL
  rw [hall, List.length_drop]
  rw [Bool.eq_iff_iff]
  simp only [Bool.and_eq_true, decide_eq_true_iff]
  omega
theorem beg_cons (t w : List UInt8) (c : UInt8) : begL (c :: t) (c :: w) = begL t w := by simp [begL, List.isPrefixOf]
theorem unf_nohash (t : List UInt8) (h : begL [38, 35] (38 :: t) = false) : (partL t).2.2 = false := by
  unfold partL
  split
  · simp [begL, List.isPrefixOf] at h
  · simp [begL, List.isPrefixOf] at h
  · rfl

set_option maxRecDepth 100000 in
set_option maxHeartbeats 1600000 in
theorem refUnfinished_any (s : ByteArray) (w : World) (hs : s.size ≤ 1099511627776) :
    Calls Tryd.prog 33 #[.string s] w (RBool w (unfR s.data.toList)) := by
  have Hlen := hid (len_data s)
  by_cases h0 : s.size = 0
  · obtain rfl : s = ⟨#[]⟩ := by
      have : s.data = #[] := Array.eq_empty_of_size_eq_zero h0
      cases s; simp_all
    go_enter Tryd.func33, Tryd.ntmps33
    go_wp2
    go_ret
    exact ⟨_, rfl, hid rfl, Below.refl _ _⟩
  · have hpos : 0 < s.size := by omega
    obtain ⟨c, t, hct⟩ : ∃ c t, s.data.toList = c :: t := by
      cases e : s.data.toList with
      | nil => have := Hlen.out; rw [e] at this; exact absurd this.symm h0
      | cons c t => exact ⟨c, t, rfl⟩
    have hemp : s.toList.isEmpty = false := by rw [ByteArray.toList_eq, hct]; rfl
    have hsc : s[0]'hpos = c := by rw [← data_get s 0 hpos (by rw [len_data]; exact hpos)]; simp [hct]
    obtain ⟨n, hn⟩ : ∃ n : Int, ((s[0]'hpos).toNat : Int) = n := ⟨_, rfl⟩
    have Hct := hid hct
    by_cases h38 : n = 38
    · obtain rfl : c = 38 := by
        rw [← hsc]; exact UInt8.toNat_inj.1 (by have : (38 : UInt8).toNat = 38 := rfl; omega)
      subst h38
      have HBE := hid (fun (p : ByteArray) (hp : p.size ≤ 1099511627776) (w : World) => begins_any s p w hs hp)
      have HB2 := hid (fun (w : World) => begins_any ⟨#[38, 35]⟩ s w (by simp [ByteArray.size]) hs)
      clear hct hsc
      go_enter Tryd.func33, Tryd.ntmps33
      go_wp2
      go_loopw [4] (fun i wr => ∃ k : Nat, k ≤ 5 ∧ i = .int .i64 k ∧ Hid (∀ j, j < k → begL t (wordAt j) = false) ∧ wr = w.alloc (.cells #[.string ⟨#[38, 97, 109, 112]⟩, .string ⟨#[38, 108, 116]⟩, .string ⟨#[38, 103, 116]⟩, .string ⟨#[38, 113, 117, 111, 116]⟩, .string ⟨#[38, 97, 112, 111, 115]⟩] 9)) (fun i _ => 5 - (intOf i).toNat)
      case atStart => exact ⟨0, by omega, rfl, hid (fun j h => absurd h (by omega)), rfl⟩
      case round =>
        obtain ⟨k, hk, rfl, hr, rfl⟩ := hrel
        have hbw : Below w.heap.size w (w.alloc (.cells #[.string ⟨#[38, 97, 109, 112]⟩, .string ⟨#[38, 108, 116]⟩, .string ⟨#[38, 103, 116]⟩, .string ⟨#[38, 113, 117, 111, 116]⟩, .string ⟨#[38, 97, 112, 111, 115]⟩] 9)) := by go_grown
        rcases (show k = 0 ∨ k = 1 ∨ k = 2 ∨ k = 3 ∨ k = 4 ∨ k = 5 by omega) with rfl | rfl | rfl | rfl | rfl | rfl
        · go_wp2_with fail
          refine (HBE.out _ (by simp [ByteArray.size]) _).mono ?_
          rintro e w2 ⟨rfl, rfl⟩
          obtain ⟨q, hq⟩ : ∃ q, begL s.data.toList (⟨#[38, 97, 109, 112]⟩ : ByteArray).data.toList = q := ⟨_, rfl⟩
          rw [hq]
          have Hq : Hid (begL t (wordAt 0) = q) := hid (by
            rw [Hct.out] at hq
            rw [← hq]; exact (beg_cons t (wordAt 0) 38).symm)
          clear hq
          cases q with
          | true =>
            have HU := hid (unf_word t 0 (by omega) Hq.out)
            go_wp2
            go_ret
            exact ⟨_, rfl, hid (by rw [Hct.out, HU.out]), hbw⟩
          | false =>
            go_wp2
            go_roundw
            case rel =>
              refine ⟨0 + 1, by omega, by go_num, hid (fun j h => ?_), by first | trivial | rfl⟩
              rcases Nat.lt_or_ge j 0 with hj | hj
              · exact hr.out j hj
              · obtain rfl : j = 0 := by omega
                exact Hq.out
            case measure => simp [intOf]
        · go_wp2_with fail
          refine (HBE.out _ (by simp [ByteArray.size]) _).mono ?_
          rintro e w2 ⟨rfl, rfl⟩
          obtain ⟨q, hq⟩ : ∃ q, begL s.data.toList (⟨#[38, 108, 116]⟩ : ByteArray).data.toList = q := ⟨_, rfl⟩
          rw [hq]
          have Hq : Hid (begL t (wordAt 1) = q) := hid (by
            rw [Hct.out] at hq
            rw [← hq]; exact (beg_cons t (wordAt 1) 38).symm)
          clear hq
          cases q with
          | true =>
            have HU := hid (unf_word t 1 (by omega) Hq.out)
            go_wp2
            go_ret
            exact ⟨_, rfl, hid (by rw [Hct.out, HU.out]), hbw⟩
          | false =>
            go_wp2
            go_roundw
            case rel =>
              refine ⟨1 + 1, by omega, by go_num, hid (fun j h => ?_), by first | trivial | rfl⟩
              rcases Nat.lt_or_ge j 1 with hj | hj
              · exact hr.out j hj
              · obtain rfl : j = 1 := by omega
                exact Hq.out
            case measure => simp [intOf]
        · go_wp2_with fail
          refine (HBE.out _ (by simp [ByteArray.size]) _).mono ?_
          rintro e w2 ⟨rfl, rfl⟩
          obtain ⟨q, hq⟩ : ∃ q, begL s.data.toList (⟨#[38, 103, 116]⟩ : ByteArray).data.toList = q := ⟨_, rfl⟩
          rw [hq]
          have Hq : Hid (begL t (wordAt 2) = q) := hid (by
            rw [Hct.out] at hq
            rw [← hq]; exact (beg_cons t (wordAt 2) 38).symm)
          clear hq
          cases q with
          | true =>
            have HU := hid (unf_word t 2 (by omega) Hq.out)
            go_wp2
            go_ret
            exact ⟨_, rfl, hid (by rw [Hct.out, HU.out]), hbw⟩
          | false =>
            go_wp2
            go_roundw
            case rel =>
              refine ⟨2 + 1, by omega, by go_num, hid (fun j h => ?_), by first | trivial | rfl⟩
              rcases Nat.lt_or_ge j 2 with hj | hj
              · exact hr.out j hj
              · obtain rfl : j = 2 := by omega
                exact Hq.out
            case measure => simp [intOf]
        · go_wp2_with fail
          refine (HBE.out _ (by simp [ByteArray.size]) _).mono ?_
          rintro e w2 ⟨rfl, rfl⟩
          obtain ⟨q, hq⟩ : ∃ q, begL s.data.toList (⟨#[38, 113, 117, 111, 116]⟩ : ByteArray).data.toList = q := ⟨_, rfl⟩
          rw [hq]
          have Hq : Hid (begL t (wordAt 3) = q) := hid (by
            rw [Hct.out] at hq
            rw [← hq]; exact (beg_cons t (wordAt 3) 38).symm)
          clear hq
          cases q with
          | true =>
            have HU := hid (unf_word t 3 (by omega) Hq.out)
            go_wp2
            go_ret
            exact ⟨_, rfl, hid (by rw [Hct.out, HU.out]), hbw⟩
          | false =>
            go_wp2
            go_roundw
            case rel =>
              refine ⟨3 + 1, by omega, by go_num, hid (fun j h => ?_), by first | trivial | rfl⟩
              rcases Nat.lt_or_ge j 3 with hj | hj
              · exact hr.out j hj
              · obtain rfl : j = 3 := by omega
                exact Hq.out
            case measure => simp [intOf]
        · go_wp2_with fail
          refine (HBE.out _ (by simp [ByteArray.size]) _).mono ?_
          rintro e w2 ⟨rfl, rfl⟩
          obtain ⟨q, hq⟩ : ∃ q, begL s.data.toList (⟨#[38, 97, 112, 111, 115]⟩ : ByteArray).data.toList = q := ⟨_, rfl⟩
          rw [hq]
          have Hq : Hid (begL t (wordAt 4) = q) := hid (by
            rw [Hct.out] at hq
            rw [← hq]; exact (beg_cons t (wordAt 4) 38).symm)
          clear hq
          cases q with
          | true =>
            have HU := hid (unf_word t 4 (by omega) Hq.out)
            go_wp2
            go_ret
            exact ⟨_, rfl, hid (by rw [Hct.out, HU.out]), hbw⟩
          | false =>
            go_wp2
            go_roundw
            case rel =>
              refine ⟨4 + 1, by omega, by go_num, hid (fun j h => ?_), by first | trivial | rfl⟩
              rcases Nat.lt_or_ge j 4 with hj | hj
              · exact hr.out j hj
              · obtain rfl : j = 4 := by omega
                exact Hq.out
            case measure => simp [intOf]
        · have HU := hid (unf_rest t hr.out)
          obtain ⟨W, hW⟩ : ∃ W, w.alloc (.cells #[.string ⟨#[38, 97, 109, 112]⟩, .string ⟨#[38, 108, 116]⟩, .string ⟨#[38, 103, 116]⟩, .string ⟨#[38, 113, 117, 111, 116]⟩, .string ⟨#[38, 97, 112, 111, 115]⟩] 9) = W := ⟨_, rfl⟩
          rw [hW] at hbw ⊢
          clear hW
          go_wp2_with fail
          refine (HB2.out _).mono ?_
          rintro e w2 ⟨rfl, rfl⟩
          obtain ⟨q, hq⟩ : ∃ q, begL (⟨#[38, 35]⟩ : ByteArray).data.toList s.data.toList = q := ⟨_, rfl⟩
          rw [hq]
          have Hq := hid hq
          clear hq
          cases q with
          | false =>
            have HU2 : Hid (unfR s.data.toList = false) := hid (by
              have h1 := Hq.out
              rw [Hct.out] at h1
              rw [Hct.out, HU.out, unf_nohash t h1]; rfl)
            go_wp2
            go_ret
            exact ⟨_, rfl, hid HU2.out.symm, hbw⟩
          | true =>
            obtain ⟨u, hu⟩ : ∃ u, t = 35 :: u := by
              have := Hq.out
              unfold begL at this
              rw [List.isPrefixOf_iff_prefix, Hct.out] at this
              obtain ⟨r, hr⟩ := this
              have hr2 : 38 :: 35 :: r = 38 :: t := hr
              injection hr2 with _ hr2
              exact ⟨r, hr2.symm⟩
            subst hu
            have hszu : s.size = u.length + 2 := by rw [← Hlen.out, Hct.out]; simp
            have Hszu := hid hszu
            clear hszu
            cases u with
            | nil =>
              have hsz2 : (s.size : Int) = 2 := by rw [Hszu.out]; rfl
              have hR : runL s.data.toList 2 false = 0 := by rw [Hct.out]; rfl
              have hrun := fun w => run_any s 2 false w hs (by omega)
              rw [hR] at hrun
              have Hrun := hid hrun
              clear hrun hR
              have HU2 : Hid (unfR s.data.toList = true) := hid (by rw [Hct.out, HU.out]; rfl)
              go_wp2_with (go_at_call 64; refine (Hrun.out _).mono ?_; rintro e w1 ⟨rfl, rfl⟩)
              go_ret
              exact ⟨_, rfl, hid HU2.out.symm, hbw⟩
            | cons d v =>
              have hsz3 : 2 < s.size := by rw [Hszu.out]; simp
              have hsd : s[2]'hsz3 = d := by rw [← data_get s 2 hsz3 (by rw [Hlen.out]; exact hsz3)]; simp [Hct.out]
              obtain ⟨m, hm⟩ : ∃ m : Int, ((s[2]'hsz3).toNat : Int) = m := ⟨_, rfl⟩
              have hm0 : 0 ≤ m ∧ m ≤ 255 := by have := (s[2]'hsz3).toNat_lt; omega
              have hX : isX d = ((m == 120) || (m == 88)) := by
                have := byte_all (p := fun c n => isX c = ((n == 120) || (n == 88))) (by decide +kernel) m hm0.1 hm0.2
                rw [← hm, bOf_cast, hm, hsd] at this; exact this
              cases hx : isX d with
              | true =>
                rw [hx] at hX
                have HX := hid hx
                have hmx : m = 120 ∨ m = 88 := by
                  have := hX.symm
                  rw [Bool.or_eq_true, beq_iff_eq, beq_iff_eq] at this; exact this
                clear hX hsd hx
                rcases hmx with rfl | rfl
                · have HU2 : Hid (unfR s.data.toList = numericL (s.data.toList.drop 3) true) := hid (by
                    have hd : s.data.toList.drop 3 = v := by rw [Hct.out]; rfl
                    rw [hd, Hct.out, HU.out]; simp only [partL]; rw [HX.out]; rfl)
                  have HN := hid (num_run s.data.toList 3 true (by rw [Hlen.out]; omega))
                  have hrl := run_le s.data.toList 3 true
                  rw [Hlen.out] at hrl HN
                  have hrun := fun w => run_any s 3 true w hs (by omega)
                  obtain ⟨n, hn⟩ : ∃ n, runL s.data.toList 3 true = n := ⟨_, rfl⟩
                  rw [hn] at hrl HN
                  simp only [hn] at hrun
                  have Hrun := hid hrun
                  clear hn hrun
                  by_cases h7 : n ≤ 7
                  · by_cases he : 3 + n = s.size
                    · have HF : Hid (unfR s.data.toList = true) := hid (by rw [HU2.out, HN.out, decide_eq_true h7, decide_eq_true he]; rfl)
                      have he2 : (3 : Int) + n = s.size := by omega
                      go_wp2_with (go_at_call 64; refine (Hrun.out _).mono ?_; rintro e w1 ⟨rfl, rfl⟩)
                      go_ret
                      exact ⟨_, rfl, hid (by rw [HF.out]), hbw⟩
                    · have HF : Hid (unfR s.data.toList = false) := hid (by rw [HU2.out, HN.out, decide_eq_false he, Bool.and_false])
                      have he2 : ((3 : Int) + n == s.size) = false := beq_eq_false_iff_ne.2 (by omega)
                      go_wp2_with (go_at_call 64; refine (Hrun.out _).mono ?_; rintro e w1 ⟨rfl, rfl⟩)
                      go_ret
                      exact ⟨_, rfl, hid (by rw [HF.out]), hbw⟩
                  · have HF : Hid (unfR s.data.toList = false) := hid (by rw [HU2.out, HN.out, decide_eq_false h7]; rfl)
                    go_wp2_with (go_at_call 64; refine (Hrun.out _).mono ?_; rintro e w1 ⟨rfl, rfl⟩)
                    go_ret
                    exact ⟨_, rfl, hid (by rw [HF.out]), hbw⟩
                · have HU2 : Hid (unfR s.data.toList = numericL (s.data.toList.drop 3) true) := hid (by
                    have hd : s.data.toList.drop 3 = v := by rw [Hct.out]; rfl
                    rw [hd, Hct.out, HU.out]; simp only [partL]; rw [HX.out]; rfl)
                  have HN := hid (num_run s.data.toList 3 true (by rw [Hlen.out]; omega))
                  have hrl := run_le s.data.toList 3 true
                  rw [Hlen.out] at hrl HN
                  have hrun := fun w => run_any s 3 true w hs (by omega)
                  obtain ⟨n, hn⟩ : ∃ n, runL s.data.toList 3 true = n := ⟨_, rfl⟩
                  rw [hn] at hrl HN
                  simp only [hn] at hrun
                  have Hrun := hid hrun
                  clear hn hrun
                  by_cases h7 : n ≤ 7
                  · by_cases he : 3 + n = s.size
                    · have HF : Hid (unfR s.data.toList = true) := hid (by rw [HU2.out, HN.out, decide_eq_true h7, decide_eq_true he]; rfl)
                      have he2 : (3 : Int) + n = s.size := by omega
                      go_wp2_with (go_at_call 64; refine (Hrun.out _).mono ?_; rintro e w1 ⟨rfl, rfl⟩)
                      go_ret
                      exact ⟨_, rfl, hid (by rw [HF.out]), hbw⟩
                    · have HF : Hid (unfR s.data.toList = false) := hid (by rw [HU2.out, HN.out, decide_eq_false he, Bool.and_false])
                      have he2 : ((3 : Int) + n == s.size) = false := beq_eq_false_iff_ne.2 (by omega)
                      go_wp2_with (go_at_call 64; refine (Hrun.out _).mono ?_; rintro e w1 ⟨rfl, rfl⟩)
                      go_ret
                      exact ⟨_, rfl, hid (by rw [HF.out]), hbw⟩
                  · have HF : Hid (unfR s.data.toList = false) := hid (by rw [HU2.out, HN.out, decide_eq_false h7]; rfl)
                    go_wp2_with (go_at_call 64; refine (Hrun.out _).mono ?_; rintro e w1 ⟨rfl, rfl⟩)
                    go_ret
                    exact ⟨_, rfl, hid (by rw [HF.out]), hbw⟩
              | false =>
                rw [hx] at hX
                have HX := hid hx
                have hm1 : (m == 120) = false ∧ (m == 88) = false := by
                  have := hX.symm
                  rw [Bool.or_eq_false_iff] at this; exact this
                obtain ⟨hm1, hm2⟩ := hm1
                clear hX hsd hx
                have HU2 : Hid (unfR s.data.toList = numericL (s.data.toList.drop 2) false) := hid (by
                  have hd : s.data.toList.drop 2 = d :: v := by rw [Hct.out]; rfl
                  rw [hd, Hct.out, HU.out]; simp only [partL]; rw [HX.out]; rfl)
                have HN := hid (num_run s.data.toList 2 false (by rw [Hlen.out]; omega))
                have hrl := run_le s.data.toList 2 false
                rw [Hlen.out] at hrl HN
                have hrun := fun w => run_any s 2 false w hs (by omega)
                obtain ⟨n, hn⟩ : ∃ n, runL s.data.toList 2 false = n := ⟨_, rfl⟩
                rw [hn] at hrl HN
                simp only [hn] at hrun
                have Hrun := hid hrun
                clear hn hrun
                by_cases h7 : n ≤ 7
                · by_cases he : 2 + n = s.size
                  · have HF : Hid (unfR s.data.toList = true) := hid (by rw [HU2.out, HN.out, decide_eq_true h7, decide_eq_true he]; rfl)
                    have he2 : (2 : Int) + n = s.size := by omega
                    go_wp2_with (go_at_call 64; refine (Hrun.out _).mono ?_; rintro e w1 ⟨rfl, rfl⟩)
                    go_ret
                    exact ⟨_, rfl, hid (by rw [HF.out]), hbw⟩
                  · have HF : Hid (unfR s.data.toList = false) := hid (by rw [HU2.out, HN.out, decide_eq_false he, Bool.and_false])
                    have he2 : ((2 : Int) + n == s.size) = false := beq_eq_false_iff_ne.2 (by omega)
                    go_wp2_with (go_at_call 64; refine (Hrun.out _).mono ?_; rintro e w1 ⟨rfl, rfl⟩)
                    go_ret
                    exact ⟨_, rfl, hid (by rw [HF.out]), hbw⟩
                · have HF : Hid (unfR s.data.toList = false) := hid (by rw [HU2.out, HN.out, decide_eq_false h7]; rfl)
                  go_wp2_with (go_at_call 64; refine (Hrun.out _).mono ?_; rintro e w1 ⟨rfl, rfl⟩)
                  go_ret
                  exact ⟨_, rfl, hid (by rw [HF.out]), hbw⟩
    · have hne : (n == 38) = false := beq_eq_false_iff_ne.2 h38
      have HU : Hid (unfR s.data.toList = false) := hid (unf_no _ (fun u e => by
        rw [hct] at e
        injection e with e _
        apply h38
        rw [← hn, hsc, e]; rfl))
      clear hct hsc
      go_enter Tryd.func33, Tryd.ntmps33
      go_wp2
      go_ret
      exact ⟨_, rfl, hid HU.out.symm, Below.refl _ _⟩
end Go.Proofs.YtihgmgpcdodknaaDoor
