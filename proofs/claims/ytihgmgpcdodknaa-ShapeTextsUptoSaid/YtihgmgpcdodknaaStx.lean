/- The law ShapeTexts: its walk. -/
import Derived.Test.YtihgmgpcdodknaaWri
import Derived.Test.YtihgmgpcdodknaaAlv
set_option linter.unusedVariables false
namespace Go.Proofs.Ytihgmgpcdodknaa
open Go.RowKit

theorem toks_pair (s : List UInt8) (h : (toks s).2 = 0) : toks s = ((toks s).1, 0) := by
  rw [← h]
set_option maxRecDepth 100000 in
set_option maxHeartbeats 6400000 in
theorem shapeTexts_w (A : Option Addr) (c : Nat) (M : List Tk) (sa sb : ByteArray) (w : World) (hll : M.length ≤ 1048576) (hV : TkA w w.heap.size (.slice A M.length c) M) (hf : ∀ t ∈ M, TkB 1048576 t) (ha : sa.size ≤ 1048576) (hb : sb.size ≤ 1048576) (hm : MaxAt w) :
    Calls Try.prog 9 #[.slice A M.length c, .string sa, .string sb] w fun e w' => e = .returned (.bool true) ∧ Below w.heap.size w w' := by
  have Hal := hid (fun W (hM : MaxAt W) => alive32_any W hM)
  have Hwr := hid (fun W hV => refWrite_any M (.slice A M.length c) W hV hll hf)
  have Hes := hid (fun s W hs => refEscape06_any s W hs)
  have Hsh := hid (fun s W hs (hM : MaxAt W) => shapeS_any s W hs hM)
  have Hnu := hid (fun n W => num32_any n W)
  have HV := hid hV
  have Hm := hid hm
  obtain ⟨wr, hwr⟩ : ∃ r, wrL M = r := ⟨_, rfl⟩
  obtain ⟨ws, we⟩ := wr
  rw [hwr] at Hwr
  have Hwl := hid hwr
  obtain ⟨n, hn⟩ : ∃ n, M.length = n := ⟨_, rfl⟩
  rw [hn] at HV Hwr ⊢
  clear hwr hV hm hn hf hll
  go_enter Try.func9, Try.ntmps9
  go_upto_region 3 with (go_at_call 15; refine (Hal.out _ Hm.out).mono ?_; rintro e w1 ⟨rfl, hb1⟩)
  have Hb1 := hid hb1
  have Hw1 := hid (Hwr.out w1 ((HV.out.below hb1).more hb1.size))
  clear hb1
  go_upto_region 4 with (go_at_call 28; refine Hw1.out.mono ?_; rintro e w2 ⟨ts, er, rfl, hts, her, hb2⟩)
  have Hb2 := hid (Hb1.out.trans (hb2.mono Hb1.out.size))
  by_cases he : er = 0
  · have hwl2 : wrL M = (ts.data.toList, 0) := by rw [Hwl.out, ← he, hts.out, her.out]
    obtain ⟨-, -, -, hlt⟩ := wrL_ok M _ hwl2
    rw [len_data] at hlt
    have Hwl2 := hid hwl2
    subst he
    have hw1 : IntKind.i64.wrap (6 * (sa.size : Int)) = 6 * (sa.size : Int) := IntWalk.i64_in _ (by omega)
    have hw2 : IntKind.i64.wrap (6 * (sb.size : Int)) = 6 * (sb.size : Int) := IntWalk.i64_in _ (by omega)
    have hw3 : IntKind.i64.wrap ((ts.size : Int) + 6 * (sa.size : Int)) = (ts.size : Int) + 6 * (sa.size : Int) := IntWalk.i64_in _ (by omega)
    have hw4 : IntKind.i64.wrap ((ts.size : Int) + 6 * (sa.size : Int) + 6 * (sb.size : Int)) = (ts.size : Int) + 6 * (sa.size : Int) + 6 * (sb.size : Int) := IntWalk.i64_in _ (by omega)
    clear hts her hwl2 hb2
    by_cases hbig : 60000 < (ts.size : Int) + 6 * (sa.size : Int) + 6 * (sb.size : Int)
    · have hbd : decide (60000 < (ts.size : Int) + 6 * (sa.size : Int) + 6 * (sb.size : Int)) = true := decide_eq_true hbig
      go_wp2_with fail
      go_ret
      exact ⟨rfl, Hb2.out⟩
    · have hbd : decide (60000 < (ts.size : Int) + 6 * (sa.size : Int) + 6 * (sb.size : Int)) = false := decide_eq_false hbig
      have Hea := hid (fun W => Hes.out sa W (by omega))
      have Heb := hid (fun W => Hes.out sb W (by omega))
      go_upto_region 6 with fail
      clear hw1 hw2 hw3 hw4 hbd
      go_upto_region 7 with (first
        | (go_at_call 17; (with_reducible refine (Heb.out _).mono ?_); rintro e w4 ⟨tb, rfl, htb, hb4⟩; have htbz : tb.size ≤ 21000000 := (by have := escL_len sb.data.toList; rw [len_data] at this; rw [← len_data, htb.out]; omega); have d2 : ¬ 9223372036854775807 < ta.size + ts.size + tb.size := (by omega); have Hb4 := hid (Hb3.out.trans (hb4.mono Hb3.out.size)); clear hb4)
        | (go_at_call 17; (with_reducible refine (Hea.out _).mono ?_); rintro e w3 ⟨ta, rfl, hta, hb3⟩; have htaz : ta.size ≤ 21000000 := (by have := escL_len sa.data.toList; rw [len_data] at this; rw [← len_data, hta.out]; omega); have d1 : ¬ 9223372036854775807 < ta.size + ts.size := (by omega); have Hb3 := hid (Hb2.out.trans (hb3.mono Hb2.out.size)); clear hb3; clear Hea))
      have hall : Hid ((ta ++ ts ++ tb).data.toList = escL sa.data.toList ++ ts.data.toList ++ escL sb.data.toList) := hid (by rw [data_append, data_append, hta.out, htb.out])
      have hzz : (ta ++ ts ++ tb).size ≤ 1099511627776 := by rw [ByteArray.size_append, ByteArray.size_append]; omega
      obtain ⟨tt, htt⟩ : ∃ x, ta ++ ts ++ tb = x := ⟨_, rfl⟩
      rw [htt] at hall hzz ⊢
      have Hs1 := hid (fun W hM => Hsh.out tt W hzz hM)
      have Hs2 := hid (fun W hM => Hsh.out ts W (by omega) hM)
      have Hmain : Hid ((toks tt.data.toList).2 = 0 → (toks ts.data.toList).2 = 0 → shpS (toks tt.data.toList) = shpS (toks ts.data.toList)) := hid (fun h1 h2 => by
        have h3 := toks_pair _ h1
        have h4 := toks_pair _ h2
        have h5 := toks_amid M ts.data.toList sa.data.toList sb.data.toList Hwl2.out (toks tt.data.toList).1 (toks ts.data.toList).1 (by rw [← hall.out]; exact h3) h4
        unfold shpS
        rw [if_pos h1, if_pos h2]
        unfold shapeL
        rw [h5])
      obtain ⟨r1, hr1⟩ : ∃ r, toks tt.data.toList = r := ⟨_, rfl⟩
      obtain ⟨r2, hr2⟩ : ∃ r, toks ts.data.toList = r := ⟨_, rfl⟩
      have Hr1 := hid hr1
      have Hr2 := hid hr2
      rw [hr1] at Hs1 Hmain
      rw [hr2] at Hs2 Hmain
      clear htt hr1 hr2 hta htb d1 d2 htaz htbz Heb
      obtain ⟨L1, e1⟩ := r1
      obtain ⟨L2, e2⟩ := r2
      go_upto_region 8 with (go_at_call 25; refine (Hs1.out _ (Hm.out.keep Hb4.out)).mono ?_; rintro e w5 ⟨Va, rfl, hTa, hb5⟩; have Hb5 := hid (Hb4.out.trans (hb5.mono Hb4.out.size)))
      go_upto_region 9 with (go_at_call 25; refine (Hs2.out _ (Hm.out.keep Hb5.out)).mono ?_; rintro e w6 ⟨Vb, rfl, hTb, hb6⟩; have Hb6 := hid (Hb5.out.trans (hb6.mono Hb5.out.size)))
      have Hn1 := hid (fun W => Hnu.out e1 W)
      have Hn2 := hid (fun W => Hnu.out e2 W)
      have HTa := hid hTa
      have HTb := hid hTb
      have Hb56 := hid hb6
      clear hTa hTb hb5 hb6
      by_cases h1 : e1 = 0
      · subst h1
        by_cases h2 : e2 = 0
        · subst h2
          have heq := Hmain.out rfl rfl
          have Hsm := hid (sameAll_any _ _ Va Vb w6 (((TkA.of_own HTa.out).below Hb56.out).more Hb56.out.size) (TkA.of_own HTb.out) HTa.out.ats_le HTa.out.len_le)
          rw [(tksEq_iff _ _).2 heq] at Hsm
          go_wp2_with (first
            | (go_at_call 26; (with_reducible refine (Hn1.out _).mono ?_); rintro e w7 ⟨rfl, hw⟩; obtain rfl := hw)
            | (go_at_call 12; refine Hsm.out.mono ?_; rintro e w8 ⟨rfl, hb8⟩))
          go_ret
          exact ⟨rfl, Hb6.out.trans (hb8.mono Hb6.out.size)⟩
        · have h2b : (e2 == 0) = false := beq_eq_false_iff_ne.2 h2
          have h2c : (e2 != 0) = true := by rw [bne, h2b]; rfl
          go_wp2_with (first
            | (go_at_call 26; (with_reducible refine (Hn1.out _).mono ?_); rintro e w7 ⟨rfl, hw⟩; obtain rfl := hw)
            | (go_at_call 26; (with_reducible refine (Hn2.out _).mono ?_); rintro e w7 ⟨rfl, hw⟩; obtain rfl := hw))
          go_ret
          exact ⟨rfl, Hb6.out⟩
      · have h1b : (e1 == 0) = false := beq_eq_false_iff_ne.2 h1
        have h1c : (e1 != 0) = true := by rw [bne, h1b]; rfl
        go_wp2_with (go_at_call 26; (with_reducible refine (Hn1.out _).mono ?_); rintro e w7 ⟨rfl, hw⟩; obtain rfl := hw)
        go_ret
        exact ⟨rfl, Hb6.out⟩
  · have heb : (er == 0) = false := beq_eq_false_iff_ne.2 he
    have hec : (er != 0) = true := by rw [bne, heb]; rfl
    go_wp2_with fail
    go_ret
    exact ⟨rfl, Hb2.out⟩
end Go.Proofs.Ytihgmgpcdodknaa
