/- Contracts of the reference's Styled, Style. -/
import Derived.Test.YtkfijdccemblmaaRef1
import Derived.Test.YtkfijdccemblmaaRef2
set_option linter.unusedVariables false
namespace Go.Proofs.Ytkfijdccemblmaa
open Go.RowKit

set_option maxHeartbeats 1600000 in
theorem refStyled_any (s : ByteArray) (w : World) (hs : s.size ≤ 1099511627775) :
    Calls Try.prog 21 #[.string s] w (RBool w (styledL s.data.toList)) := by
  have hlens := hid (len_data s)
  go_enter Try.func21, Try.ntmps21
  go_wp2_with (go_at_call 29; refine (refLower_any _ _ hs).mono ?_; rintro e w1 ⟨t, rfl, ht, hb1⟩)
  have hlen := hid (len_data t)
  have hts : t.size ≤ 1099511627775 := by rw [← hlen.out, ht.out, low_length, hlens.out]; exact hs
  go_loop [4] (fun i => ∃ k : Nat, k ≤ t.size ∧ i = .int .i64 k ∧ Hid (∀ c ∈ t.data.toList.take k, okCss c = true)) (fun i => t.size - (intOf i).toNat)
  case atStart => exact ⟨0, Nat.zero_le _, rfl, hid (by simp)⟩
  case round =>
    obtain ⟨k, hk, rfl, hS⟩ := hrel
    by_cases hlt : k < t.size
    · have hkl : k < t.data.toList.length := by rw [hlen.out]; exact hlt
      obtain ⟨c, hc⟩ : ∃ c, t[k] = c := ⟨_, rfl⟩
      have hst := hid (take_one t.data.toList k hkl)
      rw [data_get t k hlt, hc] at hst
      have hm : Hid (c ∈ t.data.toList) := hid (by rw [← hc]; exact List.getElem_mem hkl)
      have hcb : (c.toNat : Int) ≤ 255 := by have := c.toNat_lt; omega
      have hbc := bOf_cast c
      go_wp2_with (first | (go_at_call 32; refine (refLetter_any _ (by omega) hcb _).mono ?_; rintro e w2 ⟨rfl, rfl⟩) | (go_at_call 33; refine (refDigit_any _ (by omega) hcb _).mono ?_; rintro e w2 ⟨rfl, rfl⟩) | (go_at_call 34; refine (refHas_any _ _ (by omega) hcb (by show 7 ≤ _; omega) _).mono ?_; rintro e w2 ⟨rfl, rfl⟩))
      rotate_left 2
      · go_ret
        refine ⟨_, rfl, hid ?_, hb1⟩
        have h : okCss c = false := by rw [okCss_eq]; simp [*, sMore] at *; simp [*]
        have h2 : (low s.data.toList).all okCss = false := by
          rw [← ht.out, List.all_eq_false]
          exact ⟨c, hm.out, by rw [h]; simp⟩
        unfold styledL
        rw [h2]; rfl
      all_goals
        go_round
        case rel =>
          refine ⟨k + 1, by omega, by go_num, hid ?_⟩
          rw [hst.out]
          intro d hd
          rcases List.mem_append.1 hd with h | h
          · exact hS.out d h
          · have e : d = c := by simpa using h
            rw [e, okCss_eq]; simp [*, sMore] at *; try simp [*]
        case measure => simp [intOf]; omega
    · obtain rfl : k = t.size := by omega
      rw [take_all] at hS
      have hall : Hid ((low s.data.toList).all okCss = true) := hid (by rw [← ht.out, List.all_eq_true]; exact hS.out)
      have hun : Hid (styledL s.data.toList = (decide (s.size ≤ 4096) && decide (Lib.index t.data.toList sExpr < 0) && decide (Lib.index t.data.toList sUrl < 0))) := hid (by
        unfold styledL; rw [hall.out, ← ht.out, hlens.out]; rfl)
      go_wp2_with (go_at_call 35; refine (refFind_any _ _ (by omega) (by show _ ≤ 1099511627776; decide) _).mono ?_; rintro e w2 ⟨rfl, rfl⟩)
      all_goals go_ret
      all_goals (refine ⟨_, rfl, hid ?_, hb1⟩; rw [hun.out])
      · have h4 : s.size ≤ 4096 := by omega
        simp [sExpr, sUrl, *]
        rfl
      · rename_i h
        have h4 : decide (Lib.index t.data.toList sExpr < 0) = false := decide_eq_false (by show ¬ Lib.index t.data.toList [101, 120, 112, 114, 101, 115, 115, 105, 111, 110] < 0; omega)
        rw [h4]; simp
      · have h4 : decide (s.size ≤ 4096) = false := decide_eq_false (by omega)
        rw [h4]; simp

set_option maxHeartbeats 400000 in
theorem refStyle_any (s : ByteArray) (w : World) (hs : s.size ≤ 1099511627775) :
    Calls Try.prog 12 #[.string s] w (RStr w (styleL s.data.toList)) := by
  go_enter Try.func12, Try.ntmps12
  go_wp2_with (go_at_call 21; refine (refStyled_any _ _ hs).mono ?_; rintro e w1 ⟨r, rfl, hr, hb1⟩; cases r)
  all_goals go_ret
  all_goals (refine ⟨_, rfl, hid ?_, hb1⟩; unfold styleL; rw [← hr.out]; rfl)
end Go.Proofs.Ytkfijdccemblmaa
