/- The law ShapeAlike: its walk. -/
import Derived.Test.YtihgmgpcdodknaaEqA
import Derived.Test.YtihgmgpcdodknaaStl
set_option linter.unusedVariables false
namespace Go.Proofs.Ytihgmgpcdodknaa
open Go.RowKit

theorem tks_refl (L : List Tk) : tksEq L L = true := (tksEq_iff L L).2 rfl
set_option maxRecDepth 100000 in
set_option maxHeartbeats 6400000 in
theorem shapeAlike_any (s t : ByteArray) (w : World) (hs : s.size ≤ 1048576) (ht : t.size ≤ 1048576) (hm : MaxAt w) :
    Calls Try.prog 3 #[.string s, .string t] w fun e w' => e = .returned (.bool true) ∧ Below w.heap.size w w' := by
  have Hal := hid (fun W (hM : MaxAt W) => alive32_any W hM)
  have Hr1 := hid (fun W => refTokens_any s W (by omega))
  have Hr2 := hid (fun W => refTokens_any t W (by omega))
  have Ha1 := hid (fun W (hM : MaxAt W) => alike_any s t W (by omega) (by omega) hM)
  have Ha2 := hid (fun W (hM : MaxAt W) => alike_any s s W (by omega) (by omega) hM)
  have Hl1 := hid (toks_ats s.data.toList)
  have Hl2 := hid (toks_len s.data.toList)
  have Hl3 := hid (toks_ats t.data.toList)
  have Hl4 := hid (toks_len t.data.toList)
  have Hs1 := hid (shpS_eq s.data.toList)
  have Hs2 := hid (shpS_eq t.data.toList)
  have Hm := hid hm
  rw [refT_toks] at Hr1 Hr2
  obtain ⟨r, hr⟩ : ∃ r, toks s.data.toList = r := ⟨_, rfl⟩
  obtain ⟨q, hq⟩ : ∃ q, toks t.data.toList = q := ⟨_, rfl⟩
  rw [hr] at Hr1 Ha1 Ha2 Hl1 Hl2 Hs1
  rw [hq] at Hr2 Ha1 Hl3 Hl4 Hs2
  obtain ⟨L, x1⟩ := r
  obtain ⟨M, x2⟩ := q
  obtain ⟨z1, hz1⟩ : ∃ z, alikeB (L, x1) (M, x2) = z := ⟨_, rfl⟩
  obtain ⟨z2, hz2⟩ : ∃ z, alikeB (L, x1) (L, x1) = z := ⟨_, rfl⟩
  rw [hz1] at Ha1
  rw [hz2] at Ha2
  have Hz1 : Hid (z1 = (x1 == 0 && (x2 == 0 && tksEq (shapeL L) (shapeL M)))) := hid (by rw [← hz1]; unfold alikeB; rw [Hs1.out, Hs2.out])
  have Hz2 : Hid (z2 = (x1 == 0)) := hid (by rw [← hz2]; unfold alikeB; rw [tks_refl, Bool.and_true, Bool.and_self])
  clear hr hq hm hs ht hz1 hz2
  obtain ⟨z, hz⟩ : ∃ z, tksEq (shapeL L) (shapeL M) = z := ⟨_, rfl⟩
  have Hz := hid hz
  rw [hz] at Hz1
  clear hz
  by_cases h1 : x1 = 0
  · subst h1
    obtain rfl : z2 = true := Hz2.out
    by_cases h2 : x2 = 0
    · subst h2
      obtain rfl : z1 = z := by rw [Hz1.out]; simp
      go_enter Try.func3, Try.ntmps3
      go_wp2_with fail
      refine (Hr1.out _).mono ?_
      rintro e w1 ⟨Va, rfl, hTa, hb1⟩
      have HTa := hid hTa
      have Hb1 := hid hb1
      clear hTa hb1
      go_wp2_with fail
      refine (Hr2.out _).mono ?_
      rintro e w2 ⟨Vb, rfl, hTb, hb2⟩
      have HTb := hid hTb
      have Hb2 := hid hb2
      have Hb12 := hid (Hb1.out.trans (hb2.mono Hb1.out.size))
      clear hTb hb2
      have Hq1 := hid (refShape_any L Va w2 (fun t ht => Nat.le_trans (Hl1.out t ht) (by omega)) (Nat.le_trans Hl2.out (by omega)) (((TkA.of_own HTa.out).below Hb2.out).more Hb2.out.size))
      go_wp2_with fail
      refine Hq1.out.mono ?_
      rintro e w3 ⟨Vc, rfl, hTc, hb3⟩
      have HTc := hid hTc
      have Hb23 := hid (Hb2.out.trans (hb3.mono Hb2.out.size))
      have Hb3 := hid hb3
      have Hb13 := hid (Hb12.out.trans (hb3.mono Hb12.out.size))
      clear hTc hb3
      have Hq2 := hid (refShape_any M Vb w3 (fun t ht => Nat.le_trans (Hl3.out t ht) (by omega)) (Nat.le_trans Hl4.out (by omega)) (((TkA.of_own HTb.out).below Hb3.out).more Hb3.out.size))
      go_wp2_with fail
      refine Hq2.out.mono ?_
      rintro e w4 ⟨Vd, rfl, hTd, hb4⟩
      have HTd := hid hTd
      have Hb4 := hid hb4
      have Hb14 := hid (Hb13.out.trans (hb4.mono Hb13.out.size))
      clear hTd hb4
      have Hsm := hid (sameAll_any (shapeL L) (shapeL M) Vc Vd w4 (((TkA.of_own HTc.out).below Hb4.out).more Hb4.out.size) (TkA.of_own HTd.out) HTc.out.ats_le HTc.out.len_le)
      rw [Hz.out] at Hsm
      go_wp2_with fail
      refine Hsm.out.mono ?_
      rintro e w5 ⟨rfl, hb5⟩
      have Hb15 := hid (Hb14.out.trans (hb5.mono Hb14.out.size))
      clear hb5
      go_wp2_with fail
      refine (Ha1.out _ (Hm.out.keep Hb15.out)).mono ?_
      rintro e w6 ⟨rfl, hb6⟩
      have Hb16 := hid (Hb15.out.trans (hb6.mono Hb15.out.size))
      clear hb6
      go_wp2_with fail
      refine (Ha2.out _ (Hm.out.keep Hb16.out)).mono ?_
      rintro e w7 ⟨rfl, hb7⟩
      have Hb17 := hid (Hb16.out.trans (hb7.mono Hb16.out.size))
      clear hb7
      go_wp2_with fail
      refine (Hal.out _ (Hm.out.keep Hb17.out)).mono ?_
      rintro e w8 ⟨rfl, hb8⟩
      have Hb18 := hid (Hb17.out.trans (hb8.mono Hb17.out.size))
      clear hb8
      go_wp2_with fail
      go_ret
      exact ⟨rfl, Hb18.out⟩
    · have h2b : (x2 == 0) = false := beq_eq_false_iff_ne.2 h2
      obtain rfl : z1 = false := by rw [Hz1.out, h2b]; rfl
      go_enter Try.func3, Try.ntmps3
      go_wp2_with fail
      refine (Hr1.out _).mono ?_
      rintro e w1 ⟨Va, rfl, hTa, hb1⟩
      have HTa := hid hTa
      have Hb1 := hid hb1
      clear hTa hb1
      go_wp2_with fail
      refine (Hr2.out _).mono ?_
      rintro e w2 ⟨Vb, rfl, hTb, hb2⟩
      have HTb := hid hTb
      have Hb2 := hid hb2
      have Hb12 := hid (Hb1.out.trans (hb2.mono Hb1.out.size))
      clear hTb hb2
      go_wp2_with fail
      refine (Ha1.out _ (Hm.out.keep Hb12.out)).mono ?_
      rintro e w6 ⟨rfl, hb6⟩
      have Hb16 := hid (Hb12.out.trans (hb6.mono Hb12.out.size))
      clear hb6
      go_wp2_with fail
      refine (Ha2.out _ (Hm.out.keep Hb16.out)).mono ?_
      rintro e w7 ⟨rfl, hb7⟩
      have Hb17 := hid (Hb16.out.trans (hb7.mono Hb16.out.size))
      clear hb7
      go_wp2_with fail
      refine (Hal.out _ (Hm.out.keep Hb17.out)).mono ?_
      rintro e w8 ⟨rfl, hb8⟩
      have Hb18 := hid (Hb17.out.trans (hb8.mono Hb17.out.size))
      clear hb8
      go_wp2_with fail
      go_ret
      exact ⟨rfl, Hb18.out⟩
  · have h1b : (x1 == 0) = false := beq_eq_false_iff_ne.2 h1
    obtain rfl : z1 = false := by rw [Hz1.out, h1b]; rfl
    obtain rfl : z2 = false := by rw [Hz2.out, h1b]
    go_enter Try.func3, Try.ntmps3
    go_wp2_with fail
    refine (Hr1.out _).mono ?_
    rintro e w1 ⟨Va, rfl, hTa, hb1⟩
    have HTa := hid hTa
    have Hb1 := hid hb1
    clear hTa hb1
    go_wp2_with fail
    refine (Hr2.out _).mono ?_
    rintro e w2 ⟨Vb, rfl, hTb, hb2⟩
    have HTb := hid hTb
    have Hb2 := hid hb2
    have Hb12 := hid (Hb1.out.trans (hb2.mono Hb1.out.size))
    clear hTb hb2
    go_wp2_with fail
    refine (Ha1.out _ (Hm.out.keep Hb12.out)).mono ?_
    rintro e w6 ⟨rfl, hb6⟩
    have Hb16 := hid (Hb12.out.trans (hb6.mono Hb12.out.size))
    clear hb6
    go_wp2_with fail
    refine (Ha2.out _ (Hm.out.keep Hb16.out)).mono ?_
    rintro e w7 ⟨rfl, hb7⟩
    have Hb17 := hid (Hb16.out.trans (hb7.mono Hb16.out.size))
    clear hb7
    go_wp2_with fail
    refine (Hal.out _ (Hm.out.keep Hb17.out)).mono ?_
    rintro e w8 ⟨rfl, hb8⟩
    have Hb18 := hid (Hb17.out.trans (hb8.mono Hb17.out.size))
    clear hb8
    go_wp2_with fail
    go_ret
    exact ⟨rfl, Hb18.out⟩
end Go.Proofs.Ytihgmgpcdodknaa
