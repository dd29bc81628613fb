/- Package refs: Decode (as in RefsX, alone). -/
import Derived.Test.YtihgmgpcdodknaaRefsW
import Derived.Test.YtihgmgpcdodknaaBstr
import Derived.Lib.SmallJoins
set_option linter.unusedVariables false
namespace Go.Proofs.Ytihgmgpcdodknaa
open Go.RowKit

theorem mtch_len (m x : List UInt8) (h : Mtch m x) : 4 ≤ m.length ∧ x.length ≤ 4 := by
  refine ⟨?_, (mtch_shape m x h).elim fun u h => h.2.2.2.2.2⟩
  rcases h with ⟨p, hp, rfl, rfl⟩ | ⟨hex, pre, ds, hx, h1, h2, h3, rfl, rfl⟩
  · simp only [names, List.mem_cons, List.not_mem_nil, or_false] at hp
    rcases hp with rfl | rfl | rfl | rfl | rfl <;> decide
  · simp; omega
theorem one_len (s : List UInt8) : (oneR s).1.length ≤ (oneR s).2 ∧ (oneR s).2 ≤ s.length := by
  rcases one_mtch s with e | ⟨m, x, r, rfl, hm⟩
  · rw [e]; simp
  · rw [mtch_one m x r hm]
    have := mtch_len m x hm
    simp; omega

set_option maxRecDepth 100000 in
set_option maxHeartbeats 1600000 in
theorem decode06_any (s : ByteArray) (w : World) (hs : s.size ≤ 137438953472) :
    Calls Try.prog 58 #[.string s] w (RStr w (decL s.data.toList)) := by
  have Hlen := hid (len_data s)
  go_enter Try.func58, Try.ntmps58
  go_wp2
  go_loopw [0] (fun x wr => ∃ (u : ByteArray) (pre : List UInt8), x = .string u ∧ Hid (Bld w.heap.size (w.heap.size + 1) pre wr) ∧ pre.length + u.size ≤ s.size ∧ Hid (decL s.data.toList = pre ++ decL u.data.toList) ∧ Below w.heap.size w wr) (fun x _ => match x with | .string u => u.size | _ => 0)
  case atStart => exact ⟨s, [], rfl, hid (Bld.new w), by simp, hid rfl, by go_grown⟩
  case round =>
    obtain ⟨u, pre, rfl, hB, hl, hd, hb⟩ := hrel
    have Hlu := hid (len_data u)
    by_cases h0 : u.size = 0
    · obtain rfl : u = ⟨#[]⟩ := by
        have : u.data = #[] := Array.eq_empty_of_size_eq_zero h0
        cases u; simp_all
      go_wp2_with fail
      refine (bstrK_any _ _ _ _ hB.out).mono ?_
      rintro e w2 ⟨rfl, hb2, _⟩
      go_wp2
      go_ret
      refine ⟨_, rfl, hid ?_, hb.trans (hb2.mono (by omega))⟩
      have := hd.out
      have e0 : decL (⟨#[]⟩ : ByteArray).data.toList = [] := rfl
      rw [e0, List.append_nil] at this
      exact this.symm
    · have hpos : 0 < u.size := by omega
      obtain ⟨c, t, hct⟩ : ∃ c t, u.data.toList = c :: t := by
        cases e : u.data.toList with
        | nil => have := Hlu.out; rw [e] at this; exact absurd this.symm h0
        | cons c t => exact ⟨c, t, rfl⟩
      have hemp : u.toList.isEmpty = false := by rw [ByteArray.toList_eq, hct]; rfl
      have hc : u[0]'hpos = c := by rw [← data_get u 0 hpos (by rw [len_data]; exact hpos)]; simp [hct]
      have Hct := hid hct
      have Hone := hid (one_len u.data.toList)
      clear hct
      go_wp2_with fail
      refine (one_any u _ (by omega)).mono ?_
      rintro e w2 ⟨x, n', rfl, hx, hn, hb2⟩
      have hB2 := hB.out.keep hb2
      have hbb := after hb hb2 hb.size
      obtain ⟨n, rfl⟩ : ∃ n : Nat, n' = (n : Int) := ⟨_, hn.out⟩
      have hn2 : (oneR u.data.toList).2 = n := by have := hn.out; omega
      have hxl : x.size ≤ n ∧ n ≤ u.size := by
        have h1 := Hone.out
        rw [hn2, ← hx.out, len_data, len_data] at h1
        exact h1
      have Hn := hid hn2
      clear hn hn2
      have Hst := hid (decL_cons c t)
      by_cases hn0 : 0 < n
      · have hex : Hid ((u.extract n u.size).data.toList = u.data.toList.drop n) := hid (by rw [data_extract, List.take_of_length_le (by rw [len_data]; exact Nat.le_refl _)])
        go_wp2_with (go_at_call 55; refine (writeString_any _ _ _ x _ hB2 (by omega)).mono ?_; rintro e w3 ⟨rfl, hB3, hX3⟩)
        go_roundw
        case rel =>
          refine ⟨_, _, rfl, hid hB3, ?_, hid ?_, hbb.trans (hX3.below (by omega))⟩
          · rw [List.length_append, len_data, ByteArray.size_extract]; omega
          · rw [hd.out, hex.out, List.append_assoc, hx.out, Hct.out, Hst.out, ← Hct.out, Hn.out, if_pos hn0]
        case measure => simp only []; rw [ByteArray.size_extract]; omega
      · obtain rfl : n = 0 := by omega
        have hcb : (c.toNat : Int) ≤ 255 := by have := c.toNat_lt; omega
        have hex : Hid ((u.extract 1 u.size).data.toList = t) := hid (by rw [data_extract, List.take_of_length_le (by rw [len_data]; exact Nat.le_refl _), Hct.out]; rfl)
        go_wp2_with (go_at_call 71; refine (writeByte_any _ _ _ (c.toNat : Int) _ hB2 (by omega) hcb (by omega)).mono ?_; rintro e w3 ⟨rfl, hB3, hX3⟩)
        go_roundw
        case rel =>
          refine ⟨_, _, rfl, hid hB3, ?_, hid ?_, hbb.trans (hX3.below (by omega))⟩
          · rw [List.length_append, ByteArray.size_extract, List.length_singleton]; omega
          · rw [hd.out, hex.out, List.append_assoc, bOf_cast, Hct.out, Hst.out, ← Hct.out, Hn.out, if_neg (by omega)]; rfl
        case measure => simp only []; rw [ByteArray.size_extract]; omega
end Go.Proofs.Ytihgmgpcdodknaa
