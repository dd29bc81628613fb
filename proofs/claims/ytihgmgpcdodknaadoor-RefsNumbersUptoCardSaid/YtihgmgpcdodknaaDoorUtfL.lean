/- The walks of UtfOwn, UtfTells, UtfRepairs. -/
import Derived.Test.YtihgmgpcdodknaaDoorChars3
set_option linter.unusedVariables false
namespace Go.Proofs.YtihgmgpcdodknaaDoor
open Go.RowKit Go.Shelf

theorem str_self (t : ByteArray) : (t.toList == t.toList) = true := beq_self_eq_true _

set_option maxRecDepth 100000 in
set_option maxHeartbeats 800000 in
theorem utfOwn_any (s : ByteArray) (w : World) (hs : s.size ≤ 1048576) (hT : TabsAt w) :
    Calls Tryd.prog 5 #[.string s] w fun e w' => e = .returned (.bool true) ∧ Below w.heap.size w w' := by
  have HT := hid hT
  have hcl := charsL_len _ s.data.toList (Nat.le_refl _)
  rw [len_data] at hcl
  obtain ⟨cs, hcs⟩ : ∃ cs, charsL s.data.toList = cs := ⟨_, rfl⟩
  have Hcs := hid hcs
  rw [hcs] at hcl
  clear hT hcs
  go_enter Tryd.func5, Tryd.ntmps5
  go_wp2_with fail
  refine (alive02_any _ HT.out).mono ?_
  rintro e w1 ⟨rfl, hb1⟩
  have HT1 := hid (HT.out.keep hb1)
  go_wp2_with fail
  refine (chars_any s _ (by omega) HT1.out).mono ?_
  rintro e w2 ⟨va, rfl, ha, hb2⟩
  have HT2 := hid (HT1.out.keep hb2)
  go_wp2_with fail
  refine (chars_any s _ (by omega) HT2.out).mono ?_
  rintro e w3 ⟨vb, rfl, hB, hb3⟩
  rw [Hcs.out] at ha hB
  have ha3 := ha.keep hb3
  have hw12 := hb2.size
  obtain ⟨ad, cap, hva⟩ := ha3.shape
  have Hrow : Hid (0 < cs.length → ∃ g, ad = some ⟨g, 0, none⟩ ∧ w1.heap.size ≤ g ∧ g < w2.heap.size ∧ ∃ cur : Array Value, w3.heap[g]? = some (.cells cur 3 (0, 0)) ∧ cs.length ≤ cur.size) := hid (by
    intro h0
    rcases ha3.2 with ⟨_, hz⟩ | ⟨g, cp, cur, hv, hbg, hg, hnc, hcm, hcs', _⟩
    · omega
    · rw [hva] at hv
      injection hv with hv _ _
      refine ⟨g, hv, hbg, ?_, cur, hg, by omega⟩
      have := World.ownsRow.lt ha g (by rw [hva, hv]; rfl)
      exact this.2)
  subst hva
  have HB := hid hB
  have hw3 := hb3.size
  clear ha ha3 hB
  go_wp2
  go_loopw [5] (fun i wr => ∃ k : Nat, k ≤ cs.length ∧ i = .int .i64 k ∧ Hid (OwnI wr w2.heap.size vb cs) ∧ w3.heap.size ≤ wr.heap.size ∧ Below w1.heap.size w1 wr ∧ Hid (0 < cs.length → ∃ g, ad = some ⟨g, 0, none⟩ ∧ w1.heap.size ≤ g ∧ g < w2.heap.size ∧ ∃ cur : Array Value, wr.heap[g]? = some (.cells cur 3 (0, 0)) ∧ cs.length ≤ cur.size)) (fun i _ => cs.length - (intOf i).toNat)
  case atStart => exact ⟨0, Nat.zero_le _, rfl, HB, Nat.le_refl _, then_ hb2 hb3, Hrow⟩
  case round =>
    obtain ⟨k, hk, rfl, hO, hwr, hb, hrow⟩ := hrel
    by_cases hlt : k < cs.length
    · obtain ⟨g, rfl, hg1, hg2, cur, hcur, hcz⟩ := hrow.out (by omega)
      have hc1 : wr.cell? ⟨g, k, none⟩ = some cur[k] := by rw [Lib.cell_of_heap hcur]; simp
      have hf1 : wr.frozen? ⟨g, k, none⟩ = false := Lib.frozen_of_heap hcur k
      go_wp2
      go_roundw
      case rel =>
        refine ⟨k + 1, by omega, by go_num, hid (ownsRow_setCell_below hO.out (by simp; omega) _), by simpa [World.setCell] using hwr, hb.setCell (by simp; omega) _, hid (fun _ => ?_)⟩
        refine ⟨g, rfl, hg1, hg2, cur.setIfInBounds k (.int .i64 (-1)), ?_, by simpa using hcz⟩
        simp [World.setCell, Array.getElem?_modify, hcur]
      case measure => simp [intOf]; omega
    · obtain rfl : k = cs.length := by omega
      obtain ⟨adb, capb, hvb⟩ := hO.out.shape
      subst hvb
      go_wp2_with fail
      refine (refChars_any s _ (by omega)).mono ?_
      rintro e w4 ⟨vc, rfl, hC, hb4⟩
      rw [Hcs.out] at hC
      have hO4 := hO.out.keep hb4
      go_wp2_with fail
      refine (sameInts_any _ _ _ _ cs _ hO4 hC (by omega)).mono ?_
      rintro e w5 ⟨rfl, hb5⟩
      go_wp2
      go_ret
      exact ⟨rfl, then_ (then_ (then_ hb1 hb) hb4) hb5⟩

set_option maxRecDepth 100000 in
set_option maxHeartbeats 1600000 in
theorem utfTells_any (c : Int) (s : ByteArray) (w : World) (hc0 : -9223372036854775808 ≤ c) (hc1 : c ≤ 9223372036854775807) (hs : s.size ≤ 1048576) (hT : TabsAt w) :
    Calls Tryd.prog 6 #[.int .i64 c, .string s] w fun e w' => e = .returned (.bool true) ∧ Below w.heap.size w w' := by
  have HT := hid hT
  have hcl := charsL_len _ s.data.toList (Nat.le_refl _)
  rw [len_data] at hcl
  obtain ⟨cs, hcs⟩ : ∃ cs, charsL s.data.toList = cs := ⟨_, rfl⟩
  have Hcs := hid hcs
  rw [hcs] at hcl
  clear hT hcs
  go_enter Tryd.func6, Tryd.ntmps6
  go_wp2_with fail
  refine (encode_any c hc0 hc1 _).mono ?_
  rintro e w1 ⟨t1, r1, rfl, ht1, hr1, hb1⟩
  have HT1 := hid (HT.out.keep hb1)
  go_wp2_with fail
  refine (refEncode_any c hc0 hc1 _).mono ?_
  rintro e w2 ⟨t2, r2, rfl, ht2, hr2, hb2⟩
  have HT2 := hid (HT1.out.keep hb2)
  obtain rfl : t1 = t2 := bytes_eq (by rw [ht1.out, ht2.out])
  obtain rfl : r1 = r2 := by rw [hr1.out, hr2.out]
  have hbb2 := then_ hb1 hb2
  go_wp2_with fail
  refine (decode_any s _ (by omega) HT2.out).mono ?_
  rintro e w3 ⟨x1, n1, rfl, hx1, hn1, hb3⟩
  have HT3 := hid (HT2.out.keep hb3)
  have hbb3 := then_ hbb2 hb3
  go_wp2_with fail
  refine (refDecode_any s _ (by omega)).mono ?_
  rintro e w4 ⟨x2, n2, rfl, hx2, hn2, hb4⟩
  have HT4 := hid (HT3.out.keep hb4)
  have hbb4 := then_ hbb3 hb4
  obtain rfl : x1 = x2 := by rw [hx1.out, hx2.out]
  obtain rfl : n1 = n2 := by rw [hn1.out, hn2.out]
  go_wp2_with fail
  refine (refChars_any s _ (by omega)).mono ?_
  rintro e w5 ⟨vl, rfl, hl, hb5⟩
  have HT5 := hid (HT4.out.keep hb5)
  have hbb5 := then_ hbb4 hb5
  rw [Hcs.out] at hl
  obtain ⟨adl, capl, hvl⟩ := hl.shape
  subst hvl
  have hss := str_self t1
  go_wp2_with (go_at_call 20; refine (num02_any _ _).mono ?_; rintro e w6 ⟨rfl, rfl⟩)
  refine (valid_any s _ (by omega) HT5.out).mono ?_
  rintro e w6 ⟨b1, rfl, hv1, hb6⟩
  have HT6 := hid (HT5.out.keep hb6)
  have hbb6 := then_ hbb5 hb6
  go_wp2_with fail
  refine (refValid_any s _ (by omega)).mono ?_
  rintro e w7 ⟨b2, rfl, hv2, hb7⟩
  have HT7 := hid (HT6.out.keep hb7)
  have hbb7 := then_ hbb6 hb7
  obtain rfl : b1 = b2 := by rw [hv1.out, hv2.out]
  go_wp2_with fail
  refine (repair_any s _ (by omega) HT7.out).mono ?_
  rintro e w8 ⟨u1, rfl, hu1, hb8⟩
  have HT8 := hid (HT7.out.keep hb8)
  have hbb8 := then_ hbb7 hb8
  go_wp2_with fail
  refine (refRepair_any s _ (by omega)).mono ?_
  rintro e w9 ⟨u2, rfl, hu2, hb9⟩
  have HT9 := hid (HT8.out.keep hb9)
  have hbb9 := then_ hbb8 hb9
  obtain rfl : u1 = u2 := bytes_eq (by rw [hu1.out, hu2.out])
  have hss2 := str_self u1
  go_wp2_with fail
  refine (count_any s _ (by omega) HT9.out).mono ?_
  rintro e w10 ⟨m, rfl, hm, hb10⟩
  have HT10 := hid (HT9.out.keep hb10)
  have hbb10 := then_ hbb9 hb10
  obtain rfl : m = (cs.length : Int) := by rw [hm.out, Hcs.out]
  go_wp2_with fail
  refine (chars_any s _ (by omega) HT10.out).mono ?_
  rintro e w11 ⟨va, rfl, ha, hb11⟩
  have HT11 := hid (HT10.out.keep hb11)
  have hbb11 := then_ hbb10 hb11
  rw [Hcs.out] at ha
  have hl11 := hl.keep ((((((hb6.trans (hb7.mono hb6.size)).trans (hb8.mono (Nat.le_trans hb6.size hb7.size))).trans (hb9.mono (Nat.le_trans hb6.size (Nat.le_trans hb7.size hb8.size)))).trans (hb10.mono (Nat.le_trans hb6.size (Nat.le_trans hb7.size (Nat.le_trans hb8.size hb9.size))))).trans (hb11.mono (Nat.le_trans hb6.size (Nat.le_trans hb7.size (Nat.le_trans hb8.size (Nat.le_trans hb9.size hb10.size)))))))
  go_wp2_with fail
  refine (sameInts_any _ _ _ _ cs _ ha hl11 (by omega)).mono ?_
  rintro e w12 ⟨rfl, hb12⟩
  have HT12 := hid (HT11.out.keep hb12)
  have hbb12 := then_ hbb11 hb12
  go_wp2_with fail
  refine (alive02_any _ HT12.out).mono ?_
  rintro e w13 ⟨rfl, hb13⟩
  go_wp2
  go_ret
  exact ⟨ret_bool (by simp), then_ hbb12 hb13⟩

theorem repair_iff (l : List UInt8) : (repairL l == l) = (Lib.validD l && !hasB l 0) := by
  rw [Bool.eq_iff_iff]
  constructor
  · intro h
    have h := beq_iff_eq.1 h
    have h1 := repair_valid l
    have h2 := repair_no0 l
    rw [h] at h1 h2
    rw [h1, hasB_false h2]; rfl
  · intro h
    rw [Bool.and_eq_true] at h
    have h2 : (0 : UInt8) ∉ l := fun hm => by rw [hasB_true hm] at h; simp at h
    rw [repair_same _ l (Nat.le_refl _) h.1 h2]
    exact beq_self_eq_true _
theorem hasB_snoc (l : List UInt8) (b c : UInt8) : hasB (l ++ [b]) c = (hasB l c || b == c) := by
  simp [hasB, List.contains_eq_mem]
  by_cases h : c ∈ l
  · simp [h]
  · by_cases h2 : b = c
    · simp [h2]
    · simp [h, h2, Ne.symm h2]

set_option maxRecDepth 100000 in
set_option maxHeartbeats 1600000 in
theorem utfRepairs_any (s : ByteArray) (w : World) (hs : s.size ≤ 1048576) (hT : TabsAt w) :
    Calls Tryd.prog 7 #[.string s] w fun e w' => e = .returned (.bool true) ∧ Below w.heap.size w w' := by
  have HT := hid hT
  have Hlen := hid (len_data s)
  clear hT
  go_enter Tryd.func7, Tryd.ntmps7
  go_wp2_with fail
  refine (alive02_any _ HT.out).mono ?_
  rintro e w1 ⟨rfl, hb1⟩
  have HT1 := hid (HT.out.keep hb1)
  go_wp2_with fail
  refine (repair_any s _ (by omega) HT1.out).mono ?_
  rintro e w2 ⟨t, rfl, ht, hb2⟩
  have HT2 := hid (HT1.out.keep hb2)
  have hbb2 := then_ hb1 hb2
  have hts : t.size ≤ 4 * s.size := by
    rw [← len_data t, ht.out]
    have h1 := charsL_len _ s.data.toList (Nat.le_refl _)
    have h2 := encAll_len (charsL s.data.toList)
    rw [len_data] at h1
    unfold repairL; omega
  have Hno := hid (repair_no0 s.data.toList)
  go_wp2
  go_loopw [4, 5] (fun z i wr => ∃ (k : Nat) (r : Bool), k ≤ s.size ∧ i = .int .i64 k ∧ z = .bool r ∧ Hid (r = hasB (s.data.toList.take k) 0) ∧ wr = w2) (fun _ i _ => s.size - (intOf i).toNat)
  case atStart => exact ⟨0, false, Nat.zero_le _, rfl, rfl, hid rfl, rfl⟩
  case round =>
    obtain ⟨k, r, hk, rfl, rfl, hr, rfl⟩ := hrel
    by_cases hlt : k < s.size
    · obtain ⟨x, hx⟩ : ∃ x, s[k]'hlt = x := ⟨_, rfl⟩
      have Hst : Hid (hasB (s.data.toList.take (k + 1)) 0 = (r || x == 0)) := hid (by
        have hkl : k < s.data.toList.length := by rw [Hlen.out]; exact hlt
        rw [take_one _ k hkl, hasB_snoc, hr.out, data_get s k hlt hkl, hx])
      obtain ⟨n, hn⟩ : ∃ n : Int, (x.toNat : Int) = n := ⟨_, rfl⟩
      have hn0 : 0 ≤ n ∧ n ≤ 255 := by have := x.toNat_lt; omega
      have Hx : Hid ((x == 0) = (n == 0)) := hid (by
        rw [Bool.eq_iff_iff, beq_iff_eq, beq_iff_eq, ← hn]
        constructor
        · rintro rfl; rfl
        · intro h; exact UInt8.toNat_inj.1 (by simpa using h))
      cases r with
      | true =>
        go_wp2
        go_roundw
        case rel => exact ⟨k + 1, _, by omega, by go_num, rfl, hid (by rw [Hst.out]; rfl), trivial⟩
        case measure => simp [intOf]; omega
      | false =>
        go_wp2
        go_roundw
        case rel => exact ⟨k + 1, _, by omega, by go_num, rfl, hid (by rw [Hst.out, Hx.out]; simp [Bool.beq_eq_decide_eq]), trivial⟩
        case measure => simp [intOf]; omega
    · obtain rfl : k = s.size := by omega
      have hr2 : r = hasB s.data.toList 0 := by rw [hr.out, take_all]
      have Hr := hid hr2
      clear hr hr2
      go_wp2
      go_loopw [6] (fun i wr' => ∃ k : Nat, k ≤ t.size ∧ i = .int .i64 k ∧ wr' = wr) (fun i _ => t.size - (intOf i).toNat)
      case atStart => exact ⟨0, Nat.zero_le _, rfl, rfl⟩
      case round =>
        obtain ⟨k, hk, rfl, rfl⟩ := hrel
        by_cases hlt2 : k < t.size
        · have Hne : Hid ((t[k]'hlt2).toNat ≠ 0) := hid (by
            intro e
            have hkl : k < t.data.toList.length := by rw [len_data]; exact hlt2
            have e1 := data_get t k hlt2 hkl
            have e2 : t[k]'hlt2 = 0 := UInt8.toNat_inj.1 (by simpa using e)
            rw [e2] at e1
            apply Hno.out
            rw [← ht.out, ← e1]
            exact List.getElem_mem _)
          obtain ⟨n, hn⟩ : ∃ n : Int, ((t[k]'hlt2).toNat : Int) = n := ⟨_, rfl⟩
          have hn0 : 0 < n ∧ n ≤ 255 := by have := (t[k]'hlt2).toNat_lt; have := Hne.out; omega
          go_wp2
          all_goals first | (exfalso; omega) | skip
          go_roundw
          case rel => exact ⟨k + 1, by omega, by go_num, trivial⟩
          case measure => simp [intOf]; omega
        · obtain rfl : k = t.size := by omega
          have htv := repair_valid s.data.toList
          have Htw := hid (repair_twice s.data.toList)
          have Hct := hid (repair_count s.data.toList)
          have Hif := hid (repair_iff s.data.toList)
          have Htv := hid htv
          clear htv
          go_wp2_with fail
          refine (valid_any t _ (by omega) HT2.out).mono ?_
          rintro e w3 ⟨b1, rfl, hv1, hb3⟩
          obtain rfl : b1 = true := by rw [hv1.out, ht.out]; exact Htv.out
          have HT3 := hid (HT2.out.keep hb3)
          have hbb3 := then_ hbb2 hb3
          go_wp2_with fail
          refine (repair_any t _ (by omega) HT3.out).mono ?_
          rintro e w4 ⟨t2, rfl, ht2, hb4⟩
          obtain rfl : t2 = t := bytes_eq (by rw [ht2.out, ht.out, Htw.out])
          have HT4 := hid (HT3.out.keep hb4)
          have hbb4 := then_ hbb3 hb4
          have hss := str_self t2
          obtain ⟨q, hq⟩ : ∃ q, (t2.toList == s.toList) = q := ⟨_, rfl⟩
          have Hq := hid hq
          go_wp2_with fail
          refine (valid_any s _ (by omega) HT4.out).mono ?_
          rintro e w5 ⟨b2, rfl, hv2, hb5⟩
          have HT5 := hid (HT4.out.keep hb5)
          have hbb5 := then_ hbb4 hb5
          have hqb : q = (b2 && !r) := by
            rw [← Hq.out, ByteArray.toList_eq, ByteArray.toList_eq, ht.out, Hif.out, hv2.out, Hr.out]
          subst hqb
          cases b2 <;> cases r
          all_goals
            go_wp2_with fail
            refine (count_any t2 _ (by omega) HT5.out).mono ?_
            rintro e w6 ⟨m1, rfl, hm1, hb6⟩
            have HT6 := hid (HT5.out.keep hb6)
            have hbb6 := then_ hbb5 hb6
            go_wp2_with fail
            refine (count_any s _ (by omega) HT6.out).mono ?_
            rintro e w7 ⟨m2, rfl, hm2, hb7⟩
            obtain rfl : m1 = m2 := by rw [hm1.out, hm2.out, ht.out, Hct.out]
            go_wp2
            go_ret
            exact ⟨ret_bool (by simp), then_ hbb6 hb7⟩
end Go.Proofs.YtihgmgpcdodknaaDoor
