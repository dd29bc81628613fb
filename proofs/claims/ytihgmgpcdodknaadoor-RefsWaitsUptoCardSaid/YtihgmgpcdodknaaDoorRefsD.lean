/- RefsTells, RefsParts, RefsWaits: what each returns. -/
import Derived.Test.YtihgmgpcdodknaaDoorRefsX
import Derived.Test.YtihgmgpcdodknaaDoorRef6h
import Derived.Test.YtihgmgpcdodknaaDoorUnfP
set_option linter.unusedVariables false
namespace Go.Proofs.YtihgmgpcdodknaaDoor
open Go.RowKit

theorem escL_size (s t : ByteArray) (ht : t.data.toList = escL s.data.toList) : t.size ≤ 20 * s.size := by
  rw [← len_data t, ht]
  have h1 := escA_len (repairL s.data.toList)
  have h2 := repairL_len s
  unfold escL; omega

theorem decL_len : ∀ (n : Nat) (l : List UInt8), l.length ≤ n → (decL l).length ≤ l.length
  | _, [], _ => by rw [decL_nil]; exact Nat.le_refl _
  | 0, c :: t, h => by simp at h
  | n + 1, c :: t, h => by
    rw [decL_cons]
    have h1 := one_len (c :: t)
    have hl : t.length ≤ n := by simpa using h
    split
    · rename_i h2
      have ih := decL_len n ((c :: t).drop (oneR (c :: t)).2) (by rw [List.length_drop, List.length_cons]; omega)
      rw [List.length_append]; rw [List.length_drop] at ih; omega
    · have ih := decL_len n t hl
      rw [List.length_cons, List.length_cons]; omega

set_option maxHeartbeats 1600000 in
theorem refsTells_any (s : ByteArray) (w : World) (hs : s.size ≤ 1048576) (hT : TabsAt w) :
    Calls Tryd.prog 12 #[.string s] w fun e w' => e = .returned (.bool true) ∧ Below w.heap.size w w' := by
  have HT := hid hT
  clear hT
  go_enter Tryd.func12, Tryd.ntmps12
  go_wp2_with fail
  refine (one_any s _ (by omega)).mono ?_
  rintro e w1 ⟨a, n, rfl, ha, hn, hb1⟩
  have HT1 := hid (HT.out.keep hb1)
  go_wp2_with fail
  refine (refOne_any s _ (by omega)).mono ?_
  rintro e w2 ⟨b, m, rfl, hb, hm, hb2⟩
  have HT2 := hid (HT1.out.keep hb2)
  have hbb2 := then_ hb1 hb2
  obtain rfl : a = b := bytes_eq (by rw [ha.out, hb.out])
  obtain rfl : n = m := by rw [hn.out, hm.out]
  have hss := str_self a
  clear ha hb hn hm
  go_wp2_with fail
  refine (escape06_any s _ (by omega) HT2.out).mono ?_
  rintro e w3 ⟨t1, rfl, ht1, hb3⟩
  have HT3 := hid (HT2.out.keep hb3)
  have hbb3 := then_ hbb2 hb3
  go_wp2_with fail
  refine (refEscape06_any s _ (by omega)).mono ?_
  rintro e w4 ⟨t2, rfl, ht2, hb4⟩
  have HT4 := hid (HT3.out.keep hb4)
  have hbb4 := then_ hbb3 hb4
  obtain rfl : t1 = t2 := bytes_eq (by rw [ht1.out, ht2.out])
  have hss2 := str_self t1
  clear ht1 ht2
  go_wp2_with fail
  refine (decode06_any s _ (by omega)).mono ?_
  rintro e w5 ⟨u1, rfl, hu1, hb5⟩
  have HT5 := hid (HT4.out.keep hb5)
  have hbb5 := then_ hbb4 hb5
  go_wp2_with fail
  refine (refDecode06_any s _ (by omega)).mono ?_
  rintro e w6 ⟨u2, rfl, hu2, hb6⟩
  have HT6 := hid (HT5.out.keep hb6)
  have hbb6 := then_ hbb5 hb6
  obtain rfl : u1 = u2 := bytes_eq (by rw [hu1.out, hu2.out])
  have hss3 := str_self u1
  clear hu1 hu2
  go_wp2_with fail
  refine (unfinished_any s _ (by omega)).mono ?_
  rintro e w7 ⟨x1, rfl, hx1, hb7⟩
  have HT7 := hid (HT6.out.keep hb7)
  have hbb7 := then_ hbb6 hb7
  go_wp2_with fail
  refine (refUnfinished_any s _ (by omega)).mono ?_
  rintro e w8 ⟨x2, rfl, hx2, hb8⟩
  have HT8 := hid (HT7.out.keep hb8)
  have hbb8 := then_ hbb7 hb8
  obtain rfl : x1 = x2 := by rw [hx1.out, hx2.out]
  clear hx1 hx2
  go_wp2_with fail
  refine (clean06_any s _).mono ?_
  rintro e w9 ⟨y1, rfl, hy1, hb9⟩
  have HT9 := hid (HT8.out.keep hb9)
  have hbb9 := then_ hbb8 hb9
  go_wp2_with fail
  refine (refClean06_any s _ (by omega)).mono ?_
  rintro e w10 ⟨rfl, rfl⟩
  obtain ⟨z, hz⟩ : ∃ z, cleanL s.data.toList = z := ⟨_, rfl⟩
  rw [hz] at hy1 ⊢
  obtain rfl : y1 = z := hy1.out
  clear hz hy1
  go_wp2_with fail
  refine (alive06_any _ HT9.out).mono ?_
  rintro e w11 ⟨rfl, hb11⟩
  go_wp2
  go_ret
  exact ⟨by simp, then_ hbb9 hb11⟩

set_option maxHeartbeats 1600000 in
theorem refsParts_any (a s : ByteArray) (w : World) (ha : a.size ≤ 1048576) (hs : s.size ≤ 1048576) (hT : TabsAt w) :
    Calls Tryd.prog 8 #[.string a, .string s] w fun e w' => e = .returned (.bool true) ∧ Below w.heap.size w w' := by
  have HT := hid hT
  have Hla := hid (len_data a)
  clear hT
  go_enter Tryd.func8, Tryd.ntmps8
  go_wp2_with fail
  refine (alive06_any _ HT.out).mono ?_
  rintro e w1 ⟨rfl, hb1⟩
  have HT1 := hid (HT.out.keep hb1)
  go_wp2
  go_loopw [5] (fun i wr => ∃ k : Nat, k ≤ a.size ∧ i = .int .i64 k ∧ Hid (∀ j, j < k → unfR (a.data.toList.drop j) = false) ∧ Below w.heap.size w wr) (fun i _ => a.size - (intOf i).toNat)
  case atStart => exact ⟨0, Nat.zero_le _, rfl, hid (fun j h => absurd h (by omega)), hb1⟩
  case round =>
    obtain ⟨k, hk, rfl, hU, hb⟩ := hrel
    by_cases hlt : k < a.size
    · have hde : Hid ((a.extract k a.size).data.toList = a.data.toList.drop k) := hid (drop_extract a k (by omega))
      go_wp2_with fail
      refine (refUnfinished_any _ _ (by rw [ByteArray.size_extract]; omega)).mono ?_
      rintro e w2 ⟨x, rfl, hx, hb2⟩
      have hx2 := hx.out
      rw [hde.out] at hx2
      have Hx := hid hx2
      have hbb := after hb hb2 hb.size
      clear hx hx2
      cases x with
      | true =>
        go_wp2
        go_ret
        exact ⟨rfl, hbb⟩
      | false =>
        go_wp2
        go_roundw
        case rel =>
          refine ⟨k + 1, by omega, by go_num, hid (fun j hj => ?_), hbb⟩
          rcases Nat.lt_or_ge j k with h | h
          · exact hU.out j h
          · obtain rfl : j = k := by omega
            exact Hx.out.symm
        case measure => simp [intOf]; omega
    · obtain rfl : k = a.size := by omega
      have HTr := hid (HT.out.keep hb)
      go_wp2_with fail
      refine (escape06_any s _ (by omega) HTr.out).mono ?_
      rintro e w2 ⟨t, rfl, ht, hb2⟩
      have hts := escL_size s t ht.out
      have hbb2 := after hb hb2 hb.size
      have Hat : Hid ((a ++ t).data.toList = a.data.toList ++ t.data.toList) := hid (data_append a t)
      have hsz : (a ++ t).size = a.size + t.size := by rw [← len_data, Hat.out, List.length_append, len_data, len_data]
      have hsz2 : (a ++ t).size ≤ 137438953472 := by omega
      clear hsz
      go_wp2_with fail
      refine (decode06_any _ _ hsz2).mono ?_
      rintro e w3 ⟨u, rfl, hu, hb3⟩
      have hbb3 := after hbb2 hb3 hbb2.size
      go_wp2_with fail
      refine (decode06_any a _ (by omega)).mono ?_
      rintro e w4 ⟨v, rfl, hv, hb4⟩
      have hbb4 := after hbb3 hb4 hbb3.size
      go_wp2_with fail
      refine (refRepair_any s _ (by omega)).mono ?_
      rintro e w5 ⟨r, rfl, hr, hb5⟩
      have hbb5 := after hbb4 hb5 hbb4.size
      have Hvr : Hid (v ++ r = u) := hid (bytes_eq (by
        rw [data_append, hv.out, hr.out, hu.out, Hat.out, ht.out, dec_append _ _ _ (Nat.le_refl _) (fun i hi => hU.out i (by rw [← Hla.out]; exact hi)), dec_esc]))
      have hvz : v.size ≤ 1048576 := by
        rw [← len_data, hv.out]
        have := decL_len _ a.data.toList (Nat.le_refl _)
        rw [Hla.out] at this; omega
      have hrz : r.size ≤ 4194304 := by
        rw [← len_data, hr.out]
        have := repairL_len s
        omega
      go_wp2
      go_ret
      exact ⟨ret_bool (by rw [Hvr.out]; exact str_self u), hbb5⟩

set_option maxHeartbeats 1600000 in
theorem refsWaits_any (s : ByteArray) (n : Int) (w : World) (hs : s.size ≤ 1048576) (h0 : 0 ≤ n) (h1 : n ≤ 255) (hT : TabsAt w) :
    Calls Tryd.prog 11 #[.string s, .int .u8 n] w fun e w' => e = .returned (.bool true) ∧ Below w.heap.size w w' := by
  have HT := hid hT
  have hc1 := fun (W : World) => conv_one (P := Tryd.prog) n W 49 9 5 Tryd.underlying49 Tryd.underlying5 Tryd.underlying9 h0 h1
  clear hT
  obtain ⟨t, ht⟩ : ∃ t : ByteArray, s ++ ⟨#[bOf n]⟩ = t := ⟨_, rfl⟩
  have Htd : Hid (t.data.toList = s.data.toList ++ [bOf n]) := hid (by rw [← ht, data_append])
  have htz : t.size = s.size + 1 := by
    have h := congrArg List.length Htd.out
    rw [List.length_append, len_data, len_data] at h
    simpa using h
  have hts : t.size ≤ 1099511627776 := by omega
  have Htz := hid htz
  clear htz
  have Hun1 := hid (unf_one s.data.toList)
  have Hulen := hid (unf_len s.data.toList)
  have Hmore := hid (unf_more s.data.toList (bOf n))
  have Hpre := hid (unf_prefix s.data.toList [bOf n])
  have Hhead := hid (unf_head [bOf n])
  have Hls := hid (len_data s)
  go_enter Tryd.func11, Tryd.ntmps11
  go_wp2_with fail
  refine (alive06_any _ HT.out).mono ?_
  rintro e w1 ⟨rfl, hb1⟩
  go_wp2_with fail
  refine (one_any s _ (by omega)).mono ?_
  rintro e w2 ⟨a, k, rfl, ha, hk, hb2⟩
  have hbb2 := after hb1 (((Below.refl _ _).alloc (Nat.le_refl _) _).trans (hb2.mono (by simp))) hb1.size
  go_wp2_with fail
  refine (one_any t _ hts).mono ?_
  rintro e w3 ⟨b, m, rfl, hb, hm, hb3⟩
  have hbb3 := after hbb2 hb3 hbb2.size
  go_wp2_with fail
  refine (unfinished_any s _ (by omega)).mono ?_
  rintro e w4 ⟨x, rfl, hx, hb4⟩
  have hbb4 := after hbb3 hb4 hbb3.size
  cases x with
  | false =>
    go_wp2_with fail
    refine (unfinished_any t _ hts).mono ?_
    rintro e w5 ⟨y, rfl, hy, hb5⟩
    have hbb5 := after hbb4 hb5 hbb4.size
    cases y with
    | false =>
      go_wp2
      go_ret
      exact ⟨rfl, hbb5⟩
    | true =>
      have hs0 : s.data.toList = [] := by
        cases hd : s.data.toList with
        | nil => rfl
        | cons c l =>
          exfalso
          have h2 := Hpre.out (by rw [hd]; simp) (by rw [← Htd.out]; exact hy.out.symm)
          have h3 := hx.out
          rw [h2] at h3
          cases h3
      have hn38 : n = 38 := by
        have h2 := hy.out
        rw [Htd.out, hs0, List.nil_append] at h2
        obtain ⟨u, hu⟩ := Hhead.out h2.symm
        injection hu with hu _
        have h3 : bOf n = bOf 38 := hu
        exact (bOf_eq n 38 h0 h1 (by omega) (by omega)).1 h3
      subst hn38
      have hs1 : s.toList = [] := by rw [ByteArray.toList_eq]; exact hs0
      go_wp2
      go_ret
      exact ⟨by simp, hbb5⟩
  | true =>
    have hk0 : k = 0 := by have h := hk.out; rw [Hun1.out hx.out.symm] at h; exact h
    have hle := Hulen.out hx.out.symm
    rw [Hls.out] at hle
    subst hk0
    have hmm : m = 0 ∨ (m = (t.size : Int) ∧ n = 59) := by
      have h := hm.out
      rw [Htd.out] at h
      rcases Hmore.out hx.out.symm with h2 | ⟨h2, h3⟩
      · left; omega
      · right
        refine ⟨?_, ?_⟩
        · rw [h, h2, Hls.out, Htz.out]
        · have h4 : bOf n = bOf 59 := h3
          exact (bOf_eq n 59 h0 h1 (by omega) (by omega)).1 h4
    clear ha hk hb hm hx
    rcases hmm with rfl | ⟨rfl, rfl⟩
    · go_wp2
      go_ret
      exact ⟨by first | rfl | (simp; omega), hbb4⟩
    · by_cases hz : (t.size : Int) = 0
      · have := Htz.out; omega
      · have hz2 : ((t.size : Int) == 0) = false := beq_eq_false_iff_ne.2 hz
        go_wp2
        go_ret
        exact ⟨by first | rfl | (simp; omega), hbb4⟩
end Go.Proofs.YtihgmgpcdodknaaDoor
