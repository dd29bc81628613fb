/- Package refs: value, One. -/
import Derived.Test.YtihgmgpcdodknaaRefsQ
set_option linter.unusedVariables false
namespace Go.Proofs.Ytihgmgpcdodknaa
open Go.RowKit

theorem isD_range (c : UInt8) (h : isD c = true) : 48 ≤ (c.toNat : Int) ∧ (c.toNat : Int) ≤ 57 ∧ (dval c : Int) = (c.toNat : Int) - 48 := by
  have h' := h
  unfold isD at h
  rw [Bool.and_eq_true, decide_eq_true_iff, decide_eq_true_iff] at h
  unfold dval
  rw [h', if_pos rfl]
  omega

set_option maxRecDepth 100000 in
set_option maxHeartbeats 800000 in
theorem value_any (s : ByteArray) (hex : Bool) (w : World) (h1 : 1 ≤ s.size) (h2 : s.size ≤ 7) (hd : s.data.toList.all (digP hex) = true) :
    Calls Try.prog 86 #[.string s, .bool hex] w fun e w' => e = .returned (.int .i64 (valN (baseN hex) s.data.toList)) ∧ Below w.heap.size w w' := by
  cases hex with
  | true =>
    have hU := unhex_any s w h1 h2 hd
    have HU := hid hU
    clear hU hd
    go_enter Try.func86, Try.ntmps86
    go_wp2_with fail
    refine HU.out.mono ?_
    rintro e w1 ⟨rfl, hb⟩
    go_wp2
    go_ret
    exact ⟨rfl, hb⟩
  | false =>
    have kc := fun (w : World) (s : ByteArray) => run_bytes_of_string (P := Try.prog) w 9 50 5 s Try.underlying9 Try.underlying50 Try.underlying5
    have Hlen := hid (len_data s)
    have Hd := hid hd
    clear hd
    go_enter Try.func86, Try.ntmps86
    go_wp2
    go_loopw [7, 20] (fun q i wr => ∃ k : Nat, ∃ v : Int, k ≤ s.size ∧ i = .int .i64 k ∧ q = .int .i64 v ∧ Hid (v = valN 10 (s.data.toList.take k)) ∧ 0 ≤ v ∧ v < 536870912 ∧ BytesIn wr w.heap.size s.data.toList ∧ Below w.heap.size w wr) (fun _ i _ => s.size - (intOf i).toNat)
    case atStart => exact ⟨0, 0, Nat.zero_le _, rfl, rfl, hid rfl, by omega, by omega, (BytesIn.new w s _ _ _).drew, by go_grown⟩
    case round =>
      obtain ⟨k, v, hk, rfl, rfl, hv, hv0, hv1, hB, hb⟩ := hrel
      have HB := hid hB
      clear hB
      by_cases hlt : k < s.size
      · have hkl : k < s.data.toList.length := by rw [Hlen.out]; exact hlt
        have hc0 := HB.out k hkl
        obtain ⟨c, hc⟩ : ∃ c, s.data.toList[k] = c := ⟨_, rfl⟩
        rw [hc] at hc0
        have hH : isD c = true := List.all_eq_true.1 Hd.out c (by rw [← hc]; exact List.getElem_mem _)
        have hr := isD_range c hH
        obtain ⟨n, hn⟩ : ∃ n : Int, (c.toNat : Int) = n := ⟨_, rfl⟩
        rw [hn] at hr hc0
        have Hst : Hid (((valN 10 (s.data.toList.take (k + 1)) : Nat) : Int) = v * 10 + (n - 48)) := hid (by
          rw [take_one _ k hkl, valN_snoc, hc, hv.out]; push_cast; rw [hr.2.2])
        have HvB : Hid (k + 1 ≤ 7 → v * 10 + (n - 48) < 536870912) := hid (fun _ => by
          have hall : ∀ c ∈ s.data.toList.take (k + 1), dval c < 16 := fun c hc => by
            have h3 : isD c = true := List.all_eq_true.1 Hd.out c (List.mem_of_mem_take hc)
            have := isD_range c h3
            omega
          have hl : (s.data.toList.take (k + 1)).length = k + 1 := by rw [List.length_take, Hlen.out]; omega
          have := valN_lt 10 (by omega) (k + 1) _ hl hall
          have h7 : 16 ^ (k + 1) ≤ 16 ^ 7 := Nat.pow_le_pow_right (by omega) (by omega)
          have := Hst.out
          omega)
        have hn0 : 48 ≤ n ∧ n ≤ 57 := ⟨hr.1, hr.2.1⟩
        clear hr hH hc hn
        go_wp2
        go_roundw
        case rel => exact ⟨k + 1, v * 10 + (n - 48), by omega, by go_num, rfl, hid Hst.out.symm, by omega, HvB.out (by omega), HB.out, hb⟩
        case measure => simp [intOf]; omega
      · obtain rfl : k = s.size := by omega
        have hv' := hv.out
        rw [take_all] at hv'
        subst hv'
        go_wp2
        go_ret
        exact ⟨rfl, hb⟩

theorem chrOf_ok (n : Nat) (h : encOk (n : Int) = true) (h0 : n ≠ 0) : chrOf n = encL (n : Int) ∧ encE (n : Int) = 0 := by
  unfold chrOf encL encE; rw [if_pos ⟨h, h0⟩, h]; exact ⟨rfl, rfl⟩
theorem chrOf_bad (n : Nat) (h : encOk (n : Int) = false) : chrOf n = [239, 191, 189] ∧ encE (n : Int) = 4 := by
  unfold chrOf encE; rw [h]; exact ⟨rfl, rfl⟩

set_option maxRecDepth 100000 in
set_option maxHeartbeats 1600000 in
theorem one_any (s : ByteArray) (w : World) (hs : s.size ≤ 1099511627776) :
    Calls Try.prog 70 #[.string s] w (RStrInt w (oneR s.data.toList).1 ((oneR s.data.toList).2 : Int)) := by
  have Hlen := hid (len_data s)
  by_cases h0 : s.size = 0
  · obtain rfl : s = ⟨#[]⟩ := by
      have : s.data = #[] := Array.eq_empty_of_size_eq_zero h0
      cases s; simp_all
    go_enter Try.func70, Try.ntmps70
    go_wp2
    go_ret2
    exact ⟨_, _, rfl, hid rfl, hid rfl, Below.refl _ _⟩
  · have hpos : 0 < s.size := by omega
    obtain ⟨c, u, hcu⟩ : ∃ c u, s.data.toList = c :: u := by
      cases e : s.data.toList with
      | nil => have := Hlen.out; rw [e] at this; exact absurd this.symm h0
      | cons c u => exact ⟨c, u, rfl⟩
    have hemp : s.toList.isEmpty = false := by rw [ByteArray.toList_eq, hcu]; rfl
    have hc : s[0]'hpos = c := by rw [← data_get s 0 hpos (by rw [len_data]; exact hpos)]; simp [hcu]
    have Hcu := hid hcu
    clear hcu
    by_cases h38 : c = 38
    · subst h38
      obtain ⟨q, hq, hq2⟩ : ∃ q : Nat, min (s.size : Int) 16 = (q : Int) ∧ q ≤ s.size ∧ (s.data.toList.take q = s.data.toList.take 16) := by
        rcases Nat.lt_or_ge s.size 16 with h | h
        · exact ⟨s.size, by omega, by omega, by rw [List.take_of_length_le (by rw [Hlen.out]; omega), List.take_of_length_le (by rw [Hlen.out]; omega)]⟩
        · exact ⟨16, by omega, by omega, rfl⟩
      have hqs := hq2.1
      have Hq2 := hid hq2.2
      clear hq2
      obtain ⟨j, hj⟩ : ∃ j, Lib.indexByte (s.data.toList.take 16) 59 = j := ⟨_, rfl⟩
      have hix := fun w => Try.strings_IndexByte (s.extract 0 q) 59 w
      have e59 : (59 : Int).toNat.toUInt8 = 59 := by decide
      rw [data_extract, List.drop_zero, Hq2.out, e59, hj] at hix
      have Hix := hid hix
      have Hj := hid hj
      clear hix hj e59
      by_cases hj0 : j < 0
      · have HO := hid (one_nosemi s.data.toList (semi_none _ (by rw [Hj.out]; exact hj0)))
        go_enter Try.func70, Try.ntmps70
        go_wp2_with (go_at_call 78; refine (Hix.out _).mono ?_; rintro e w1 ⟨rfl, hw⟩; obtain rfl := hw.symm)
        go_ret2
        exact ⟨_, _, rfl, hid (by rw [HO.out]), hid (by rw [HO.out]; rfl), Below.refl _ _⟩
      · obtain ⟨k, rfl⟩ : ∃ k : Nat, j = (k : Int) := ⟨j.toNat, by omega⟩
        obtain ⟨hk1, hk2, hk3, hk4⟩ := semi_at _ k Hj.out
        rw [Hlen.out] at hk1
        have hk0 : 1 ≤ k := by
          rcases Nat.eq_zero_or_pos k with h | h
          · subst h
            rw [List.take_zero, List.nil_append, Hcu.out] at hk3
            injection hk3 with h _; exact absurd h (by decide)
          · exact h
        obtain ⟨b, hb⟩ : ∃ b, s.extract 1 k = b := ⟨_, rfl⟩
        have hbd : b.data.toList = (s.data.toList.take k).drop 1 := by rw [← hb, data_extract]
        have hbs : b.size = k - 1 := by rw [← hb, ByteArray.size_extract]; omega
        obtain ⟨r, hr⟩ : ∃ r, s.data.toList.drop (k + 1) = r := ⟨_, rfl⟩
        have hl : s.data.toList = 38 :: (b.data.toList ++ 59 :: r) := by
          have e1 : s.data.toList.take k = 38 :: b.data.toList := by
            rw [hbd, Hcu.out]
            obtain ⟨k', rfl⟩ : ∃ k', k = k' + 1 := ⟨k - 1, by omega⟩
            rw [List.take_succ_cons]; rfl
          rw [e1, hr] at hk3
          rw [hk3]; rfl
        have hb59 : (59 : UInt8) ∉ b.data.toList := by
          rw [hbd]; exact fun h => hk4 (List.mem_of_mem_drop h)
        have Hl := hid hl
        have Hb59 := hid hb59
        have hbl : b.data.toList.length = k - 1 := by rw [len_data, hbs]
        have Hbl := hid hbl
        clear hl hb59 hbl hbd hr hk3 hk4
        have Hnone := hid (one_none b.data.toList r Hb59.out)
        go_enter Try.func70, Try.ntmps70
        go_wp2_with (first | (go_at_call 78; refine (Hix.out _).mono ?_; rintro e w1 ⟨rfl, hw⟩; obtain rfl := hw.symm))
        refine (named_any b _).mono ?_
        rintro e w1 ⟨t, q2, rfl, ht, rfl⟩
        cases q2 with
        | true =>
          have HO := hid (one_named b.data.toList r (by rw [← ht.out]))
          go_wp2
          go_ret2
          refine ⟨_, _, rfl, hid ?_, hid ?_, Below.refl _ _⟩
          · rw [Hl.out, HO.out, ← ht.out]
          · rw [Hl.out, HO.out, Hbl.out]; simp; omega
        | false =>
          have Hn2 : Hid ((nameB b.data.toList).2 = false) := hid (by rw [← ht.out])
          go_wp2_with fail
          refine (parts_any b _ (by omega)).mono ?_
          rintro e w1 ⟨t2, hex, is, rfl, ht2, rfl⟩
          cases is with
          | false =>
            have HO := hid (Hnone.out Hn2.out (fun h => by rw [← ht2.out] at h; cases h))
            go_wp2
            go_ret2
            exact ⟨_, _, rfl, hid (by rw [Hl.out, HO.out]), hid (by rw [Hl.out, HO.out]; rfl), Below.refl _ _⟩
          | true =>
            have Hlt2 := hid (len_data t2)
            by_cases ht0 : t2.size = 0
            · obtain rfl : t2 = ⟨#[]⟩ := by
                have : t2.data = #[] := Array.eq_empty_of_size_eq_zero ht0
                cases t2; simp_all
              have HO := hid (Hnone.out Hn2.out (fun _ h => absurd (by rw [← ht2.out]) h))
              go_wp2
              go_ret2
              exact ⟨_, _, rfl, hid (by rw [Hl.out, HO.out]), hid (by rw [Hl.out, HO.out]; rfl), Below.refl _ _⟩
            · have ht2n : t2.data.toList ≠ [] := by intro e; have := Hlt2.out; rw [e] at this; exact ht0 this.symm
              have hemp2 : t2.toList.isEmpty = false := by
                rw [ByteArray.toList_eq]
                cases e : t2.data.toList with
                | nil => exact absurd e ht2n
                | cons a t => rfl
              have Ht2n := hid ht2n
              have ht2s : t2.size ≤ 1099511627776 := by
                obtain ⟨pre, _, hpb⟩ := partL_is _ _ _ ht2.out.symm
                have := congrArg List.length hpb
                rw [Hbl.out] at this
                simp only [List.length_cons, List.length_append, Hlt2.out] at this
                omega
              clear ht2n
              go_wp2_with fail
              refine (numeric_any t2 hex _ ht2s).mono ?_
              rintro e w1 ⟨q3, rfl, hq3, rfl⟩
              cases q3 with
              | false =>
                have HO := hid (Hnone.out Hn2.out (fun _ _ => by rw [← ht2.out]; exact hq3.out.symm))
                go_wp2
                go_ret2
                exact ⟨_, _, rfl, hid (by rw [Hl.out, HO.out]), hid (by rw [Hl.out, HO.out]; rfl), Below.refl _ _⟩
              | true =>
                have HO := hid (one_number b.data.toList r t2.data.toList hex ht2.out.symm Ht2n.out hq3.out.symm)
                have hq4 := hq3.out
                unfold numericL at hq4
                have hq5 := (Bool.and_eq_true _ _).mp hq4.symm
                rw [decide_eq_true_iff, Hlt2.out] at hq5
                have hval := value_any t2 hex
                have Hval := hid (fun w => hval w (by omega) hq5.2 hq5.1)
                have hvl : valN (baseN hex) t2.data.toList < 536870912 := by
                  have hall : ∀ c ∈ t2.data.toList, dval c < 16 := fun c hc => by
                    have h3 : digP hex c = true := List.all_eq_true.1 hq5.1 c hc
                    refine dval_lt c ?_
                    unfold digP at h3
                    cases hex with
                    | true => exact h3
                    | false => unfold isH; rw [show isD c = true from h3]; rfl
                  have := valN_lt (baseN hex) (by cases hex <;> decide) t2.size _ Hlt2.out hall
                  have h7 : 16 ^ t2.size ≤ 16 ^ 7 := Nat.pow_le_pow_right (by omega) hq5.2
                  omega
                obtain ⟨n, hn⟩ : ∃ n, valN (baseN hex) t2.data.toList = n := ⟨_, rfl⟩
                have Hn := hid hn
                rw [hn] at hvl
                obtain ⟨z, hz⟩ : ∃ z : Int, (n : Int) = z := ⟨_, rfl⟩
                have Hz := hid hz
                have hz0 : 0 ≤ z ∧ z < 536870912 := by omega
                clear hval hq4 hq5 hn hvl hz
                go_wp2_with fail
                refine (Hval.out _).mono ?_
                rintro e w2 ⟨rfl, hb2⟩
                rw [Hn.out, Hz.out]
                go_wp2_with fail
                refine (encode_any z (by omega) (by omega) _).mono ?_
                rintro e w3 ⟨t3, r3, rfl, ht3, hr3, hb3⟩
                have hbb := then_ hb2 hb3
                have HO2 : Hid ((oneR s.data.toList).1 = chrOf n ∧ (((oneR s.data.toList).2 : Nat) : Int) = k + 1) := hid (by
                  rw [Hl.out, HO.out, Hn.out, Hbl.out]; exact ⟨rfl, by simp; omega⟩)
                cases hok : encOk z with
                | false =>
                  have hcb := chrOf_bad n (by rw [Hz.out]; exact hok)
                  rw [Hz.out] at hcb
                  obtain rfl : r3 = 4 := by rw [hr3.out]; exact hcb.2
                  have Hcb := hid hcb
                  clear hcb hok
                  go_wp2
                  go_ret2
                  exact ⟨_, _, rfl, hid (by rw [HO2.out.1, Hcb.out.1]), hid HO2.out.2.symm, hbb⟩
                | true =>
                  by_cases hz1 : z = 0
                  · subst hz1
                    have hn0 : n = 0 := by have := Hz.out; omega
                    obtain rfl : r3 = 0 := by rw [hr3.out]; rfl
                    have Hcb : Hid (chrOf n = [239, 191, 189]) := hid (by rw [hn0]; rfl)
                    clear hok
                    go_wp2
                    go_ret2
                    exact ⟨_, _, rfl, hid (by rw [HO2.out.1, Hcb.out]), hid HO2.out.2.symm, hbb⟩
                  · have hcb := chrOf_ok n (by rw [Hz.out]; exact hok) (by have := Hz.out; omega)
                    rw [Hz.out] at hcb
                    obtain rfl : r3 = 0 := by rw [hr3.out]; exact hcb.2
                    have Hcb := hid hcb
                    clear hcb hok
                    go_wp2
                    go_ret2
                    exact ⟨_, _, rfl, hid (by rw [HO2.out.1, Hcb.out.1, ht3.out]), hid HO2.out.2.symm, hbb⟩
    · have HO := hid (one_notamp c u h38)
      obtain ⟨n, hn⟩ : ∃ n : Int, (c.toNat : Int) = n := ⟨_, rfl⟩
      have hn2 : (n == 38) = false := by
        rw [beq_eq_false_iff_ne]
        intro e
        apply h38
        exact UInt8.toNat_inj.1 (by have : (38 : UInt8).toNat = 38 := rfl; omega)
      go_enter Try.func70, Try.ntmps70
      go_wp2
      go_ret2
      exact ⟨_, _, rfl, hid (by rw [Hcu.out, HO.out]), hid (by rw [Hcu.out, HO.out]; rfl), Below.refl _ _⟩
end Go.Proofs.Ytihgmgpcdodknaa
