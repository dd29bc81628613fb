/- The pages' Decode, Escape, Clean. -/
import Derived.Test.YtihgmgpcdodknaaDoorRef6d
set_option linter.unusedVariables false
namespace Go.Proofs.YtihgmgpcdodknaaDoor
open Go.RowKit

set_option maxRecDepth 100000 in
set_option maxHeartbeats 1600000 in
theorem refDecode06_any (s : ByteArray) (w : World) (hs : s.size ≤ 137438953472) :
    Calls Tryd.prog 43 #[.string s] w (RStr w (decL s.data.toList)) := by
  have Hlen := hid (len_data s)
  go_enter Tryd.func43, Tryd.ntmps43
  go_wp2
  go_loopw [3, 4] (fun b i wr => ∃ (k : Nat) (pre : List UInt8), k ≤ s.size ∧ i = .int .i64 k ∧ pre.length ≤ k ∧ Hid (OwnB wr w.heap.size b pre) ∧ Hid (decL s.data.toList = pre ++ decL (s.data.toList.drop k)) ∧ Below w.heap.size w wr) (fun _ i _ => s.size - (intOf i).toNat)
  case atStart => exact ⟨0, [], Nat.zero_le _, rfl, Nat.le_refl _, hid (OwnB.nil _ _), hid rfl, Below.refl _ _⟩
  case round =>
    obtain ⟨k, pre, hk, rfl, hpk, hO, hd, hb⟩ := hrel
    obtain ⟨ad, cap, rfl⟩ := hO.out.shape
    by_cases hlt : k < s.size
    · have hde : Hid ((s.extract k s.size).data.toList = s.data.toList.drop k) := hid (drop_extract s k (by omega))
      have hkl : k < s.data.toList.length := by rw [Hlen.out]; exact hlt
      obtain ⟨c, hc⟩ : ∃ c, s.data.toList[k] = c := ⟨_, rfl⟩
      have Hcs : Hid (s.data.toList.drop k = c :: s.data.toList.drop (k + 1)) := hid (by rw [List.drop_eq_getElem_cons hkl, hc])
      have hsc : s[k]'hlt = c := by rw [← data_get s k hlt hkl]; exact hc
      have Hone := hid (one_len (s.data.toList.drop k))
      have Hst := hid (decL_cons c (s.data.toList.drop (k + 1)))
      clear hc
      go_wp2_with fail
      refine (refOne_any _ _ (by rw [ByteArray.size_extract]; omega)).mono ?_
      rintro e w2 ⟨x, n', rfl, hx, hn, hb2⟩
      have hxd := hx.out
      have hnd := hn.out
      rw [hde.out] at hxd hnd
      obtain ⟨n, rfl⟩ : ∃ n : Nat, n' = (n : Int) := ⟨_, hnd⟩
      have hn2 : (oneR (s.data.toList.drop k)).2 = n := by omega
      have hxl : x.size ≤ n ∧ k + n ≤ s.size := by
        have h1 := Hone.out
        rw [hn2, ← hxd, len_data, List.length_drop, Hlen.out] at h1
        omega
      have Hn := hid hn2
      have Hx := hid hxd
      have hO2 := hO.out.keep hb2
      have hbb := after hb hb2 hb.size
      clear hn hn2 hx hxd hnd
      by_cases hn0 : n = 0
      · subst hn0
        have hcb : (c.toNat : Int) ≤ 255 := by have := c.toNat_lt; omega
        go_wp2_with (at_builtin; refine wpl_push1 rfl _ _ rfl w.heap.size _ pre _ _ hO2 rfl rfl (by omega) hcb (by omega) hbb.size ?_; intro v' w3 hO3 hb3)
        go_roundw
        case rel =>
          refine ⟨k + 1, _, by omega, by go_num, by simp; omega, hid hO3, hid ?_, hbb.trans hb3⟩
          rw [hd.out, List.append_assoc, bOf_cast, Hcs.out, Hst.out, ← Hcs.out, Hn.out, if_neg (by omega)]; rfl
        case measure => simp [intOf]; omega
      · have hn1 : (n : Int) ≠ 0 := by omega
        go_wp2_with (at_builtin; refine wpl_pushs1 rfl _ _ rfl w.heap.size _ pre _ hO2 rfl x rfl (by omega) hbb.size ?_; intro v' w3 hO3 hb3)
        go_roundw
        case rel =>
          refine ⟨k + n, _, by omega, by go_num, by rw [List.length_append, len_data]; omega, hid hO3, hid ?_, hbb.trans hb3⟩
          rw [hd.out, List.append_assoc, Hx.out, Hcs.out, Hst.out, ← Hcs.out, Hn.out, if_pos (by omega), List.drop_drop]
        case measure => simp [intOf]; omega
    · obtain rfl : k = s.size := by omega
      have hcv := hO.out.back
      go_wp2
      go_ret
      refine ⟨_, rfl, hid ?_, hb⟩
      have := hd.out
      rw [List.drop_of_length_le (by rw [Hlen.out]; exact Nat.le_refl _), decL_nil, List.append_nil] at this
      exact this.symm

set_option maxHeartbeats 800000 in
theorem refClean06_any (s : ByteArray) (w : World) (hs : s.size ≤ 1099511627776) :
    Calls Tryd.prog 44 #[.string s] w fun e w' => e = .returned (.bool (cleanL s.data.toList)) ∧ w = w' := by
  have hH := fun n h0 h1 w => refHas_any s n w hs h0 h1
  obtain ⟨a, ha⟩ : ∃ a, hasB s.data.toList 60 = a := ⟨_, rfl⟩
  obtain ⟨b, hb⟩ : ∃ b, hasB s.data.toList 62 = b := ⟨_, rfl⟩
  obtain ⟨c, hc⟩ : ∃ c, hasB s.data.toList 34 = c := ⟨_, rfl⟩
  obtain ⟨d, hd⟩ : ∃ d, hasB s.data.toList 39 = d := ⟨_, rfl⟩
  have h1 := hH 60 (by omega) (by omega)
  have h2 := hH 62 (by omega) (by omega)
  have h3 := hH 34 (by omega) (by omega)
  have h4 := hH 39 (by omega) (by omega)
  have e1 : hasB s.data.toList (bOf 60) = a := ha
  have e2 : hasB s.data.toList (bOf 62) = b := hb
  have e3 : hasB s.data.toList (bOf 34) = c := hc
  have e4 : hasB s.data.toList (bOf 39) = d := hd
  simp only [e1] at h1
  simp only [e2] at h2
  simp only [e3] at h3
  simp only [e4] at h4
  have H1 := hid h1
  have H2 := hid h2
  have H3 := hid h3
  have H4 := hid h4
  have HC : Hid (cleanL s.data.toList = (!a && !b && !c && !d)) := hid (by unfold cleanL; rw [ha, hb, hc, hd])
  clear hH h1 h2 h3 h4 e1 e2 e3 e4 ha hb hc hd
  go_enter Tryd.func44, Tryd.ntmps44
  go_wp2_with fail
  refine (H1.out _).mono ?_
  rintro e w1 ⟨rfl, rfl⟩
  cases a with
  | true =>
    go_wp2
    go_ret
    exact ⟨ret_bool (by rw [HC.out]; rfl), rfl⟩
  | false =>
    go_wp2_with fail
    refine (H2.out _).mono ?_
    rintro e w1 ⟨rfl, rfl⟩
    cases b with
    | true =>
      go_wp2
      go_ret
      exact ⟨ret_bool (by rw [HC.out]; rfl), rfl⟩
    | false =>
      go_wp2_with fail
      refine (H3.out _).mono ?_
      rintro e w1 ⟨rfl, rfl⟩
      cases c with
      | true =>
        go_wp2
        go_ret
        exact ⟨ret_bool (by rw [HC.out]; rfl), rfl⟩
      | false =>
        go_wp2_with fail
        refine (H4.out _).mono ?_
        rintro e w1 ⟨rfl, rfl⟩
        cases d with
        | true =>
          go_wp2
          go_ret
          exact ⟨ret_bool (by rw [HC.out]; rfl), rfl⟩
        | false =>
          go_wp2
          go_ret
          exact ⟨ret_bool (by rw [HC.out]; rfl), rfl⟩
end Go.Proofs.YtihgmgpcdodknaaDoor
