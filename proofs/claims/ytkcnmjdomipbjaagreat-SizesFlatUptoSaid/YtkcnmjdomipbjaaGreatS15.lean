import Derived.Test.YtkcnmjdomipbjaaGreatS6
import Derived.Test.YtkcnmjdomipbjaaGreatS8
import Derived.Test.YtkcnmjdomipbjaaGreatS14
set_option linter.unusedVariables false
set_option maxHeartbeats 100000000
set_option maxRecDepth 100000
namespace Go.Proofs.YtkcnmjdomipbjaaGreat
open Go.RowKit
theorem sg58 {c : UInt8} (pre r : List UInt8) (h : ((c.toNat : Int) == 58) = true) : schemeGo pre (c :: r) = (low pre, true) := by
 rw [u8_is h]; rfl
theorem sgq {c : UInt8} (pre r : List UInt8) (h : ((c.toNat : Int) == 47) = true ∨ ((c.toNat : Int) == 63) = true ∨ ((c.toNat : Int) == 35) = true) : schemeGo pre (c :: r) = ([], false) := by
 rcases h with h | h | h <;> (rw [u8_is h]; rfl)
theorem sgn {c : UInt8} (pre r : List UInt8) (h0 : ((c.toNat : Int) == 58) = false) (h1 : ((c.toNat : Int) == 47) = false) (h2 : ((c.toNat : Int) == 63) = false) (h3 : ((c.toNat : Int) == 35) = false) : schemeGo pre (c :: r) = schemeGo (pre ++ [c]) r := by
 rw [schemeGo, if_neg (show c ≠ 58 from u8_not h0 (by omega) (by omega)), if_neg]
 rintro (h | h | h)
 ·exact u8_not h1 (by omega) (by omega) h
 ·exact u8_not h2 (by omega) (by omega) h
 exact u8_not h3 (by omega) (by omega) h
theorem scheme_any (s : ByteArray) (w : World) (hs : s.size <= 1099511627775) :
  Calls Tryz.prog 125 #[.string s] w (RStrBool w (schemeGo [] s.data.toList).1 (schemeGo [] s.data.toList).2) := by
 have hlen := hid (len_data s)
 go_enter Tryz.func125, Tryz.ntmps125
 go_wp2
 go_loop [4] (fun i => ∃ k : Nat, k <= s.size /\ i = .int .i64 k /\ Hid (schemeGo (s.data.toList.take k) (s.data.toList.drop k) = schemeGo [] s.data.toList)) (fun i => s.size - (intOf i).toNat)
 case atStart => exact ⟨0, Nat.zero_le _, rfl, hid rfl⟩
 obtain ⟨k, hk, rfl, hS⟩ := hrel
 by_cases hlt : k < s.size
 ·have hkl : k < s.data.toList.length := by rw [hlen.out]; exact hlt
  have hlow := hid (fun W => refLower_any (s.extract 0 k) W (by rw [ByteArray.size_extract]; omega));obtain ⟨c, hc⟩ := xE s[k];have hd : Hid (s.data.toList.drop k = c :: s.data.toList.drop (k + 1)) := hid (by rw [List.drop_eq_getElem_cons hkl]; congr 1);have hcb : (c.toNat : Int) <= 255 := by have := c.toNat_lt; omega
  go_wp2_with (go_at_call 86; refine (hlow.out _).mono ?_; rintro e w1 ⟨t, rfl, ht, hb1⟩)
  ·go_ret2;have e := hS.out;rw [hd.out, sg58 _ _ ‹_›] at e;refine ⟨_, _, rfl, hid ?_, hid ?_, hb1⟩
   ·rw [ht.out, <- e, data_extract]; rfl
   rw [<- e]
  iterate 3
   ·go_ret2;have e := hS.out;rw [hd.out, sgq _ _ (by first | exact .inl ‹_› | exact .inr (.inl ‹_›) | exact .inr (.inr ‹_›))] at e;refine ⟨_, _, rfl, hid ?_, hid ?_, Below.refl _ _⟩
    ·rw [<- e]
    rw [<- e]
  go_round
  case rel =>
   refine ⟨k + 1, by omega, by go_num, hid ?_⟩;rw [<- hS.out, hd.out, sgn _ _ ‹_› ‹_› ‹_› ‹_›, List.take_succ_eq_append_getElem hkl, data_get s k hlt, hc]
  simp [intOf]; omega
 obtain rfl : k = s.size := by omega
 go_wp2
 go_ret2
 refine ⟨_, _, rfl, hid ?_, hid ?_, Below.refl _ _⟩
 all_goals (rw [<- hS.out, List.drop_of_length_le (by rw [hlen.out]; exact Nat.le_refl _)]; simp [schemeGo])
theorem refStyled_any (s : ByteArray) (w : World) (hs : s.size <= 1099511627775) :
  Calls Tryz.prog 132 #[.string s] w (RBool w (styledL s.data.toList)) := by
 have hlens := hid (len_data s)
 go_enter Tryz.func132, Tryz.ntmps132
 go_wp2_with (go_at_call 86; refine (refLower_any _ _ hs).mono ?_; rintro e w1 ⟨t, rfl, ht, hb1⟩)
 have hlen := hid (len_data t)
 have hts : t.size <= 1099511627775 := by rw [<- hlen.out, ht.out, low_length, hlens.out]; exact hs
 go_loop [4] (fun i => ∃ k : Nat, k <= t.size /\ i = .int .i64 k /\ Hid (∀ c ∈ t.data.toList.take k, okCss c = true)) (fun i => t.size - (intOf i).toNat)
 case atStart => exact ⟨0, Nat.zero_le _, rfl, hid (by simp)⟩
 obtain ⟨k, hk, rfl, hS⟩ := hrel
 by_cases hlt : k < t.size
 ·have hkl : k < t.data.toList.length := by rw [hlen.out]; exact hlt
  obtain ⟨c, hc⟩ := xE t[k];have hst := hid (take_one t.data.toList k hkl);rw [data_get t k hlt, hc] at hst;have hm : Hid (c ∈ t.data.toList) := hid (by rw [<- hc]; exact List.getElem_mem hkl);have hcb : (c.toNat : Int) <= 255 := by have := c.toNat_lt; omega
  have hbc := bOf_cast c;go_wp2_with (first | (go_at_call 62; refine (refLetter_any _ (by omega) hcb _).mono ?_; rintro e w2 ⟨rfl, rfl⟩) | (go_at_call 63; refine (refDigit_any _ (by omega) hcb _).mono ?_; rintro e w2 ⟨rfl, rfl⟩) | (go_at_call 112; refine (refHas_any _ _ (by omega) hcb (by show 7 <= _; omega) _).mono ?_; rintro e w2 ⟨rfl, rfl⟩))
  rotate_left 2
  ·go_ret;refine ⟨_, rfl, hid ?_, hb1⟩;have h : okCss c = false := by rw [okCss_eq]; simp [*, sMore] at *; simp [*]
   have h2 : (low s.data.toList).all okCss = false := by
    rw [<- ht.out, List.all_eq_false];exact ⟨c, hm.out, by rw [h]; simp⟩
   unfold styledL;rw [h2]; rfl
  all_goals
   go_round
   case rel =>
    refine ⟨k + 1, by omega, by go_num, hid ?_⟩;rw [hst.out];intro d hd;rcases List.mem_append.1 hd with h | h
    ·exact hS.out d h
    have e : d = c := by simpa using h
    rw [e, okCss_eq]; simp [*, sMore] at *; try simp [*]
   simp [intOf]; omega
 obtain rfl : k = t.size := by omega
 rw [take_all] at hS
 have hall : Hid ((low s.data.toList).all okCss = true) := hid (by rw [<- ht.out, List.all_eq_true]; exact hS.out)
 have hun : Hid (styledL s.data.toList = (decide (s.size <= 4096) && decide (Lib.index t.data.toList sExpr < 0) && decide (Lib.index t.data.toList sUrl < 0))) := hid (by
  unfold styledL; rw [hall.out, <- ht.out, hlens.out]; rfl)
 go_wp2_with (go_at_call 33; refine (refFind_any _ _ (by omega) (by show _ <= 1099511627776; decide) _).mono ?_; rintro e w2 ⟨rfl, rfl⟩)
 all_goals go_ret
 all_goals (refine ⟨_, rfl, hid ?_, hb1⟩; rw [hun.out])
 ·have h4 : s.size <= 4096 := by omega
  simp [sExpr, sUrl, *];rfl
 ·rename_i h;have h4 : decide (Lib.index t.data.toList sExpr < 0) = false := decide_eq_false (by show ¬ Lib.index t.data.toList [101, 120, 112, 114, 101, 115, 115, 105, 111, 110] < 0; omega);rw [h4]; simp
 have h4 : decide (s.size <= 4096) = false := decide_eq_false (by omega)
 rw [h4]; simp
theorem refStyle_any (s : ByteArray) (w : World) (hs : s.size <= 1099511627775) :
  Calls Tryz.prog 111 #[.string s] w (RStr w (styleL s.data.toList)) := by
 go_enter Tryz.func111, Tryz.ntmps111
 go_wp2_with (go_at_call 132; refine (refStyled_any _ _ hs).mono ?_; rintro e w1 ⟨r, rfl, hr, hb1⟩; cases r)
 all_goals go_ret
 all_goals (refine ⟨_, rfl, hid ?_, hb1⟩; unfold styleL; rw [<- hr.out]; rfl)
end Go.Proofs.YtkcnmjdomipbjaaGreat
