/- Package refs: Decode, Escape, Clean; the law's alive. -/
import Derived.Test.YtihgmgpcdodknaaDoorRefsW
import Derived.Test.YtihgmgpcdodknaaDoorRep
import Derived.Test.YtihgmgpcdodknaaDoorUtfL
import Derived.Lib.SmallJoins
set_option linter.unusedVariables false
namespace Go.Proofs.YtihgmgpcdodknaaDoor
open Go.RowKit

theorem mtch_len (m x : List UInt8) (h : Mtch m x) : 4 ≤ m.length ∧ x.length ≤ 4 := by
  refine ⟨?_, (mtch_shape m x h).elim fun u h => h.2.2.2.2.2⟩
  rcases h with ⟨p, hp, rfl, rfl⟩ | ⟨hex, pre, ds, hx, h1, h2, h3, rfl, rfl⟩
  · simp only [names, List.mem_cons, List.not_mem_nil, or_false] at hp
    rcases hp with rfl | rfl | rfl | rfl | rfl <;> decide
  · simp; omega
theorem one_len (s : List UInt8) : (oneR s).1.length ≤ (oneR s).2 ∧ (oneR s).2 ≤ s.length := by
  rcases one_mtch s with e | ⟨m, x, r, rfl, hm⟩
  · rw [e]; simp
  · rw [mtch_one m x r hm]
    have := mtch_len m x hm
    simp; omega

set_option maxRecDepth 100000 in
set_option maxHeartbeats 1600000 in
theorem decode06_any (s : ByteArray) (w : World) (hs : s.size ≤ 137438953472) :
    Calls Tryd.prog 35 #[.string s] w (RStr w (decL s.data.toList)) := by
  have Hlen := hid (len_data s)
  go_enter Tryd.func35, Tryd.ntmps35
  go_wp2
  go_loopw [0] (fun x wr => ∃ (u : ByteArray) (pre : List UInt8), x = .string u ∧ Hid (Bld w.heap.size (w.heap.size + 1) pre wr) ∧ pre.length + u.size ≤ s.size ∧ Hid (decL s.data.toList = pre ++ decL u.data.toList) ∧ Below w.heap.size w wr) (fun x _ => match x with | .string u => u.size | _ => 0)
  case atStart => exact ⟨s, [], rfl, hid (Bld.new w), by simp, hid rfl, by go_grown⟩
  case round =>
    obtain ⟨u, pre, rfl, hB, hl, hd, hb⟩ := hrel
    have Hlu := hid (len_data u)
    by_cases h0 : u.size = 0
    · obtain rfl : u = ⟨#[]⟩ := by
        have : u.data = #[] := Array.eq_empty_of_size_eq_zero h0
        cases u; simp_all
      go_wp2_with fail
      refine (bstrK_any _ _ _ _ hB.out).mono ?_
      rintro e w2 ⟨rfl, hb2, _⟩
      go_wp2
      go_ret
      refine ⟨_, rfl, hid ?_, hb.trans (hb2.mono (by omega))⟩
      have := hd.out
      have e0 : decL (⟨#[]⟩ : ByteArray).data.toList = [] := rfl
      rw [e0, List.append_nil] at this
      exact this.symm
    · have hpos : 0 < u.size := by omega
      obtain ⟨c, t, hct⟩ : ∃ c t, u.data.toList = c :: t := by
        cases e : u.data.toList with
        | nil => have := Hlu.out; rw [e] at this; exact absurd this.symm h0
        | cons c t => exact ⟨c, t, rfl⟩
      have hemp : u.toList.isEmpty = false := by rw [ByteArray.toList_eq, hct]; rfl
      have hc : u[0]'hpos = c := by rw [← data_get u 0 hpos (by rw [len_data]; exact hpos)]; simp [hct]
      have Hct := hid hct
      have Hone := hid (one_len u.data.toList)
      clear hct
      go_wp2_with fail
      refine (one_any u _ (by omega)).mono ?_
      rintro e w2 ⟨x, n', rfl, hx, hn, hb2⟩
      have hB2 := hB.out.keep hb2
      have hbb := after hb hb2 hb.size
      obtain ⟨n, rfl⟩ : ∃ n : Nat, n' = (n : Int) := ⟨_, hn.out⟩
      have hn2 : (oneR u.data.toList).2 = n := by have := hn.out; omega
      have hxl : x.size ≤ n ∧ n ≤ u.size := by
        have h1 := Hone.out
        rw [hn2, ← hx.out, len_data, len_data] at h1
        exact h1
      have Hn := hid hn2
      clear hn hn2
      have Hst := hid (decL_cons c t)
      by_cases hn0 : 0 < n
      · have hex : Hid ((u.extract n u.size).data.toList = u.data.toList.drop n) := hid (by rw [data_extract, List.take_of_length_le (by rw [len_data]; exact Nat.le_refl _)])
        go_wp2_with (go_at_call 65; refine (writeString_any _ _ _ x _ hB2 (by omega)).mono ?_; rintro e w3 ⟨rfl, hB3, hX3⟩)
        go_roundw
        case rel =>
          refine ⟨_, _, rfl, hid hB3, ?_, hid ?_, hbb.trans (hX3.below (by omega))⟩
          · rw [List.length_append, len_data, ByteArray.size_extract]; omega
          · rw [hd.out, hex.out, List.append_assoc, hx.out, Hct.out, Hst.out, ← Hct.out, Hn.out, if_pos hn0]
        case measure => simp only []; rw [ByteArray.size_extract]; omega
      · obtain rfl : n = 0 := by omega
        have hcb : (c.toNat : Int) ≤ 255 := by have := c.toNat_lt; omega
        have hex : Hid ((u.extract 1 u.size).data.toList = t) := hid (by rw [data_extract, List.take_of_length_le (by rw [len_data]; exact Nat.le_refl _), Hct.out]; rfl)
        go_wp2_with (go_at_call 66; refine (writeByte_any _ _ _ (c.toNat : Int) _ hB2 (by omega) hcb (by omega)).mono ?_; rintro e w3 ⟨rfl, hB3, hX3⟩)
        go_roundw
        case rel =>
          refine ⟨_, _, rfl, hid hB3, ?_, hid ?_, hbb.trans (hX3.below (by omega))⟩
          · rw [List.length_append, ByteArray.size_extract, List.length_singleton]; omega
          · rw [hd.out, hex.out, List.append_assoc, bOf_cast, Hct.out, Hst.out, ← Hct.out, Hn.out, if_neg (by omega)]; rfl
        case measure => simp only []; rw [ByteArray.size_extract]; omega

theorem escB_cases (c : UInt8) (n : Int) (hn : (c.toNat : Int) = n) : (n = 38 ∧ escB c = [38, 97, 109, 112, 59]) ∨ (n = 60 ∧ escB c = [38, 108, 116, 59]) ∨ (n = 62 ∧ escB c = [38, 103, 116, 59]) ∨ (n = 34 ∧ escB c = [38, 35, 51, 52, 59]) ∨ (n = 39 ∧ escB c = [38, 35, 51, 57, 59]) ∨ (n = 43 ∧ escB c = [38, 35, 52, 51, 59]) ∨ ((n == 38) = false ∧ (n == 60) = false ∧ (n == 62) = false ∧ (n == 34) = false ∧ (n == 39) = false ∧ (n == 43) = false ∧ escB c = [c]) := by
  subst hn
  have key : ∀ d : UInt8, ((c.toNat : Int) == (d.toNat : Int)) = decide (c = d) := fun d => by
    rw [Bool.eq_iff_iff, beq_iff_eq, decide_eq_true_iff]
    constructor
    · intro h; exact UInt8.toNat_inj.1 (by omega)
    · rintro rfl; rfl
  have k1 := key 38
  have k2 := key 60
  have k3 := key 62
  have k4 := key 34
  have k5 := key 39
  have k6 := key 43
  unfold escB
  by_cases h1 : c = 38
  · subst h1; left; exact ⟨rfl, rfl⟩
  by_cases h2 : c = 60
  · subst h2; right; left; exact ⟨rfl, rfl⟩
  by_cases h3 : c = 62
  · subst h3; right; right; left; exact ⟨rfl, rfl⟩
  by_cases h4 : c = 34
  · subst h4; right; right; right; left; exact ⟨rfl, rfl⟩
  by_cases h5 : c = 39
  · subst h5; right; right; right; right; left; exact ⟨rfl, rfl⟩
  by_cases h6 : c = 43
  · subst h6; right; right; right; right; right; left; exact ⟨rfl, rfl⟩
  right; right; right; right; right; right
  refine ⟨?_, ?_, ?_, ?_, ?_, ?_, by rw [if_neg h1, if_neg h2, if_neg h3, if_neg h4, if_neg h5, if_neg h6]⟩
  · exact k1.trans (decide_eq_false h1)
  · exact k2.trans (decide_eq_false h2)
  · exact k3.trans (decide_eq_false h3)
  · exact k4.trans (decide_eq_false h4)
  · exact k5.trans (decide_eq_false h5)
  · exact k6.trans (decide_eq_false h6)
theorem escA_take (l : List UInt8) (k : Nat) (h : k < l.length) : escA (l.take (k + 1)) = escA (l.take k) ++ escB l[k] := by
  rw [take_one l k h, escA_snoc]
theorem repairL_len (s : ByteArray) : (repairL s.data.toList).length ≤ 4 * s.size := by
  have h1 := charsL_len _ s.data.toList (Nat.le_refl _)
  have h2 := encAll_len (charsL s.data.toList)
  rw [len_data] at h1
  unfold repairL; omega

set_option maxRecDepth 100000 in
set_option maxHeartbeats 1600000 in
theorem escape06_any (s : ByteArray) (w : World) (hs : s.size ≤ 8589934592) (hT : TabsAt w) :
    Calls Tryd.prog 34 #[.string s] w (RStr w (escL s.data.toList)) := by
  have kc := fun (w : World) (s : ByteArray) => run_bytes_of_string (P := Tryd.prog) w 9 49 5 s Tryd.underlying9 Tryd.underlying49 Tryd.underlying5
  have HT := hid hT
  have hRL := repairL_len s
  clear hT
  go_enter Tryd.func34, Tryd.ntmps34
  go_wp2_with fail
  refine (repair_any s _ (by omega) (HT.out.keep ((Below.refl _ w).alloc (Nat.le_refl _) _))).mono ?_
  rintro e w1 ⟨t, rfl, ht, hb1⟩
  have Hlt := hid (len_data t)
  have hts : t.size ≤ 4 * s.size := by have := Hlt.out; rw [ht.out] at this; omega
  have hw1 : w.heap.size + 1 ≤ w1.heap.size := by have := hb1.size; simpa using this
  have hbk : w1.heap[w.heap.size]? = some (.cells #[.pointer none, .slice none 0 0] 57 (0, 0)) := by
    rw [hb1.block w.heap.size (by simp)]; exact heap_alloc_new w _
  have hbw : Below w.heap.size w w1 := ((Below.refl _ w).alloc (Nat.le_refl _) _).trans (hb1.mono (by simp))
  clear hRL
  have Hbk := hid hbk
  clear hbk
  go_wp2
  go_loopw [10] (fun i wr => ∃ k : Nat, k ≤ t.size ∧ i = .int .i64 k ∧ Hid (Bld w.heap.size (w1.heap.size + 1) (escA (t.data.toList.take k)) wr) ∧ Hid (BytesIn wr w1.heap.size t.data.toList) ∧ Below w.heap.size w wr) (fun i _ => t.size - (intOf i).toNat)
  case atStart =>
    refine ⟨0, Nat.zero_le _, rfl, hid (Bld.fresh ?_ (by omega) (by simp)), hid ((BytesIn.new w1 t _ _ _).drew), ?_⟩
    · exact (Below.heap_alloc w1.drew _ _ (by show w.heap.size < w1.heap.size; omega)).trans Hbk.out
    · exact hbw.drew.alloc (by show w.heap.size ≤ w1.heap.size; omega) _
  case round =>
    obtain ⟨k, hk, rfl, HB, HC, hb⟩ := hrel
    by_cases hlt : k < t.size
    · have hkl : k < t.data.toList.length := by rw [Hlt.out]; exact hlt
      have hc0 := HC.out k hkl
      obtain ⟨c, hc⟩ : ∃ c, t.data.toList[k] = c := ⟨_, rfl⟩
      rw [hc] at hc0
      have Hst := hid (escA_take t.data.toList k hkl)
      rw [hc] at Hst
      obtain ⟨n, hn⟩ : ∃ n : Int, (c.toNat : Int) = n := ⟨_, rfl⟩
      have hn0 : 0 ≤ n ∧ n ≤ 255 := by have := c.toNat_lt; omega
      have Hn := hid hn
      rw [hn] at hc0
      have hcases := escB_cases c n hn
      obtain ⟨m, hm⟩ : ∃ m, (escA (t.data.toList.take k)).length = m := ⟨_, rfl⟩
      have hm1 : m ≤ 5 * t.size := by
        rw [← hm]
        have := escA_len (t.data.toList.take k)
        rw [List.length_take, Hlt.out] at this; omega
      have HLn := hid hm
      clear hm hn hc
      rcases hcases with hcase | hcase | hcase | hcase | hcase | hcase | hcase
      · obtain ⟨rfl, he⟩ := hcase
        have He := hid he
        clear he
        go_wp2_with (first | (go_at_call 65; refine (writeString_any _ _ _ _ _ HB.out (by rw [HLn.out]; simp [ByteArray.size]; omega)).mono ?_; rintro e w3 ⟨rfl, hB3, hX3⟩))
        go_roundw
        case rel => exact ⟨k + 1, by omega, by go_num, hid (by rw [Hst.out, He.out]; exact hB3), hid (HC.out.keepX hX3 (by omega) (by omega)), hb.trans (hX3.below (by omega))⟩
        case measure => simp [intOf]; omega
      · obtain ⟨rfl, he⟩ := hcase
        have He := hid he
        clear he
        go_wp2_with (first | (go_at_call 65; refine (writeString_any _ _ _ _ _ HB.out (by rw [HLn.out]; simp [ByteArray.size]; omega)).mono ?_; rintro e w3 ⟨rfl, hB3, hX3⟩))
        go_roundw
        case rel => exact ⟨k + 1, by omega, by go_num, hid (by rw [Hst.out, He.out]; exact hB3), hid (HC.out.keepX hX3 (by omega) (by omega)), hb.trans (hX3.below (by omega))⟩
        case measure => simp [intOf]; omega
      · obtain ⟨rfl, he⟩ := hcase
        have He := hid he
        clear he
        go_wp2_with (first | (go_at_call 65; refine (writeString_any _ _ _ _ _ HB.out (by rw [HLn.out]; simp [ByteArray.size]; omega)).mono ?_; rintro e w3 ⟨rfl, hB3, hX3⟩))
        go_roundw
        case rel => exact ⟨k + 1, by omega, by go_num, hid (by rw [Hst.out, He.out]; exact hB3), hid (HC.out.keepX hX3 (by omega) (by omega)), hb.trans (hX3.below (by omega))⟩
        case measure => simp [intOf]; omega
      · obtain ⟨rfl, he⟩ := hcase
        have He := hid he
        clear he
        go_wp2_with (first | (go_at_call 65; refine (writeString_any _ _ _ _ _ HB.out (by rw [HLn.out]; simp [ByteArray.size]; omega)).mono ?_; rintro e w3 ⟨rfl, hB3, hX3⟩))
        go_roundw
        case rel => exact ⟨k + 1, by omega, by go_num, hid (by rw [Hst.out, He.out]; exact hB3), hid (HC.out.keepX hX3 (by omega) (by omega)), hb.trans (hX3.below (by omega))⟩
        case measure => simp [intOf]; omega
      · obtain ⟨rfl, he⟩ := hcase
        have He := hid he
        clear he
        go_wp2_with (first | (go_at_call 65; refine (writeString_any _ _ _ _ _ HB.out (by rw [HLn.out]; simp [ByteArray.size]; omega)).mono ?_; rintro e w3 ⟨rfl, hB3, hX3⟩))
        go_roundw
        case rel => exact ⟨k + 1, by omega, by go_num, hid (by rw [Hst.out, He.out]; exact hB3), hid (HC.out.keepX hX3 (by omega) (by omega)), hb.trans (hX3.below (by omega))⟩
        case measure => simp [intOf]; omega
      · obtain ⟨rfl, he⟩ := hcase
        have He := hid he
        clear he
        go_wp2_with (first | (go_at_call 65; refine (writeString_any _ _ _ _ _ HB.out (by rw [HLn.out]; simp [ByteArray.size]; omega)).mono ?_; rintro e w3 ⟨rfl, hB3, hX3⟩))
        go_roundw
        case rel => exact ⟨k + 1, by omega, by go_num, hid (by rw [Hst.out, He.out]; exact hB3), hid (HC.out.keepX hX3 (by omega) (by omega)), hb.trans (hX3.below (by omega))⟩
        case measure => simp [intOf]; omega
      · obtain ⟨g1, g2, g3, g4, g5, g6, he⟩ := hcase
        have He := hid he
        have Hbo : Hid (bOf n = c) := hid (by rw [← Hn.out, bOf_cast])
        clear he
        go_wp2_with (first | (go_at_call 66; refine (writeByte_any _ _ _ _ _ HB.out hn0.1 hn0.2 (by rw [HLn.out]; omega)).mono ?_; rintro e w3 ⟨rfl, hB3, hX3⟩))
        go_roundw
        case rel => exact ⟨k + 1, by omega, by go_num, hid (by rw [Hst.out, He.out, ← Hbo.out]; exact hB3), hid (HC.out.keepX hX3 (by omega) (by omega)), hb.trans (hX3.below (by omega))⟩
        case measure => simp [intOf]; omega
    · obtain rfl : k = t.size := by omega
      go_wp2_with fail
      refine (bstrK_any _ _ _ _ HB.out).mono ?_
      rintro e w3 ⟨rfl, hb3, _⟩
      go_wp2
      go_ret
      refine ⟨_, rfl, hid ?_, hb.trans (hb3.mono (by omega))⟩
      rw [take_all]
      unfold escL
      rw [ht.out]

theorem index_neg (l : List UInt8) (c : UInt8) : Lib.indexByte l c < 0 ↔ hasB l c = false := by
  have hg := Lib.indexByte_ge l c
  constructor
  · intro h
    have := Lib.indexByte_none (show Lib.indexByte l c = -1 by omega)
    refine hasB_false (fun hm => ?_)
    obtain ⟨k, hk, e⟩ := List.mem_iff_getElem.1 hm
    exact this k (by rw [List.getElem?_eq_getElem hk, e])
  · intro h
    rcases Int.lt_or_le (Lib.indexByte l c) 0 with h' | h'
    · exact h'
    · obtain ⟨o, ho⟩ : ∃ o : Nat, Lib.indexByte l c = o := ⟨(Lib.indexByte l c).toNat, by omega⟩
      have h1 := (Lib.indexByte_some ho).1
      have : c ∈ l := List.mem_of_getElem? h1
      rw [hasB_true this] at h; cases h
theorem cleanL_all (l : List UInt8) : cleanL l = ([60, 62, 34, 39] : List UInt8).all (fun d => !hasB l d) := by
  unfold cleanL; simp [Bool.and_assoc]

set_option maxRecDepth 100000 in
set_option maxHeartbeats 800000 in
theorem clean06_any (s : ByteArray) (w : World) :
    Calls Tryd.prog 39 #[.string s] w (RBool w (cleanL s.data.toList)) := by
  have kcc := fun (W : World) => Lib.run_convert_bytes_const (P := Tryd.prog) W 49 5 #[.int .u8 60, .int .u8 62, .int .u8 34, .int .u8 39] 4 4 Tryd.underlying49 Tryd.underlying5
  have HA := hid (cleanL_all s.data.toList)
  go_enter Tryd.func39, Tryd.ntmps39
  go_wp2
  go_loopw [8] (fun i wr => ∃ k : Nat, k ≤ 4 ∧ i = .int .i64 k ∧ Hid ((([60, 62, 34, 39] : List UInt8).take k).all (fun d => !hasB s.data.toList d) = true) ∧ Hid (BytesIn wr w.heap.size [60, 62, 34, 39]) ∧ Below w.heap.size w wr) (fun i _ => 4 - (intOf i).toNat)
  case atStart =>
    refine ⟨0, by omega, rfl, hid rfl, hid (fun j hj => ?_), by go_grown⟩
    rw [World.cell?_alloc_mark]
    match j, hj with
    | 0, _ => rfl
    | 1, _ => rfl
    | 2, _ => rfl
    | 3, _ => rfl
    | j + 4, hj => exact absurd hj (by simp)
  case round =>
    obtain ⟨k, hk, rfl, hA, hB, hb⟩ := hrel
    by_cases hlt : k < 4
    · have hkl : k < ([60, 62, 34, 39] : List UInt8).length := by simpa using hlt
      have hc0 := hB.out k hkl
      obtain ⟨c, hc⟩ : ∃ c, ([60, 62, 34, 39] : List UInt8)[k] = c := ⟨_, rfl⟩
      rw [hc] at hc0
      have Hst : Hid ((([60, 62, 34, 39] : List UInt8).take (k + 1)).all (fun d => !hasB s.data.toList d) = !hasB s.data.toList c) := hid (by
        rw [take_one _ k hkl, List.all_append, hA.out, hc]; simp)
      obtain ⟨n, hn⟩ : ∃ n : Int, (c.toNat : Int) = n := ⟨_, rfl⟩
      rw [hn] at hc0
      have hn8 : n.toNat.toUInt8 = c := by rw [← hn]; simp
      obtain ⟨j, hj⟩ : ∃ j, Lib.indexByte s.data.toList c = j := ⟨_, rfl⟩
      have hix := fun w => Tryd.strings_IndexByte s n w
      rw [hn8, hj] at hix
      have Hix := hid hix
      have Hneg := hid (index_neg s.data.toList c)
      have Hj := hid hj
      have Hmem : Hid (c ∈ ([60, 62, 34, 39] : List UInt8)) := hid (by rw [← hc]; exact List.getElem_mem _)
      clear hix hn8 hn hc hj
      by_cases hj0 : j < 0
      · go_wp2_with (go_at_call 67; refine (Hix.out _).mono ?_; rintro e w1 ⟨rfl, hw⟩; obtain rfl := hw.symm)
        go_roundw
        case rel => exact ⟨k + 1, by omega, by go_num, hid (by rw [Hst.out, Hneg.out.mp (by rw [Hj.out]; exact hj0)]; rfl), hB, hb⟩
        case measure => simp [intOf]; omega
      · go_wp2_with (go_at_call 67; refine (Hix.out _).mono ?_; rintro e w1 ⟨rfl, hw⟩; obtain rfl := hw.symm)
        go_ret
        refine ⟨_, rfl, hid ?_, hb⟩
        rw [HA.out]
        have hh : hasB s.data.toList c = true := by
          cases e : hasB s.data.toList c with
          | true => rfl
          | false => have := Hneg.out.mpr e; rw [Hj.out] at this; omega
        symm
        rw [List.all_eq_false]
        exact ⟨c, Hmem.out, by rw [hh]; simp⟩
    · obtain rfl : k = 4 := by omega
      have hA2 : cleanL s.data.toList = true := by rw [HA.out]; exact hA.out
      have HA2 := hid hA2
      clear hA2
      go_wp2
      go_ret
      exact ⟨_, rfl, hid HA2.out.symm, hb⟩

theorem dec_alive : decL [38, 35, 54, 53, 59] = [65] := by
  have h : Mtch [38, 35, 54, 53, 59] [65] := .inr ⟨false, [], [54, 53], .inr ⟨rfl, rfl⟩, by simp, by simp, by decide, rfl, by decide⟩
  have := decL_mtch _ _ [] h
  rw [List.append_nil, decL_nil, List.append_nil] at this
  exact this
theorem esc_alive : escL [60] = [38, 108, 116, 59] := by
  have e : repairL [60] = [60] := repair_same _ [60] (Nat.le_refl _) (by
    have := valid_enc 60 (by decide)
    exact this) (by decide)
  unfold escL; rw [e]; rfl

set_option maxHeartbeats 800000 in
theorem alive06_any (w : World) (hT : TabsAt w) : Calls Tryd.prog 32 #[] w fun e w' => e = .returned (.bool true) ∧ Below w.heap.size w w' := by
  have HT := hid hT
  clear hT
  go_enter Tryd.func32, Tryd.ntmps32
  go_wp2_with fail
  refine (decode06_any _ _ (by simp [ByteArray.size])).mono ?_
  rintro e w1 ⟨t, rfl, ht, hb1⟩
  have ht2 : t.toList = [65] := by rw [ByteArray.toList_eq, ht.out]; exact dec_alive
  go_wp2_with fail
  refine (escape06_any _ _ (by simp [ByteArray.size]) (HT.out.keep hb1)).mono ?_
  rintro e w2 ⟨t2, rfl, ht3, hb2⟩
  have ht4 : t2.toList = [38, 108, 116, 59] := by rw [ByteArray.toList_eq, ht3.out]; exact esc_alive
  go_wp2
  go_ret
  exact ⟨by simp, then_ hb1 hb2⟩

set_option maxHeartbeats 800000 in
theorem refsBack_any (s : ByteArray) (w : World) (hs : s.size ≤ 1048576) (hT : TabsAt w) :
    Calls Tryd.prog 10 #[.string s] w fun e w' => e = .returned (.bool true) ∧ Below w.heap.size w w' := by
  have HT := hid hT
  clear hT
  go_enter Tryd.func10, Tryd.ntmps10
  go_wp2_with fail
  refine (escape06_any s _ (by omega) HT.out).mono ?_
  rintro e w1 ⟨t, rfl, ht, hb1⟩
  have HT1 := hid (HT.out.keep hb1)
  have hts : t.size ≤ 20 * s.size := by
    rw [← len_data t, ht.out]
    have h1 := escA_len (repairL s.data.toList)
    have h2 := repairL_len s
    unfold escL; omega
  go_wp2_with fail
  refine (decode06_any t _ (by omega)).mono ?_
  rintro e w2 ⟨t2, rfl, ht2, hb2⟩
  have HT2 := hid (HT1.out.keep hb2)
  have hbb2 := then_ hb1 hb2
  go_wp2_with fail
  refine (refRepair_any s _ (by omega)).mono ?_
  rintro e w3 ⟨t3, rfl, ht3, hb3⟩
  have HT3 := hid (HT2.out.keep hb3)
  have hbb3 := then_ hbb2 hb3
  obtain rfl : t2 = t3 := bytes_eq (by rw [ht2.out, ht.out, ht3.out, dec_esc])
  have hss := str_self t2
  go_wp2_with fail
  refine (clean06_any t _).mono ?_
  rintro e w4 ⟨b, rfl, hb, hb4⟩
  have HT4 := hid (HT3.out.keep hb4)
  have hbb4 := then_ hbb3 hb4
  obtain rfl : b = true := by rw [hb.out, ht.out]; exact esc_clean _
  go_wp2_with fail
  refine (alive06_any _ HT4.out).mono ?_
  rintro e w5 ⟨rfl, hb5⟩
  go_wp2
  go_ret
  exact ⟨by simp, then_ hbb4 hb5⟩
end Go.Proofs.YtihgmgpcdodknaaDoor
