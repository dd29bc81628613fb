/- The reader's attrs: the pass from label 3. -/
import Derived.Test.YtihgmgpcdodknaaDoorTok5
set_option linter.unusedVariables false
namespace Go.Proofs.YtihgmgpcdodknaaDoor
open Go.RowKit

set_option maxRecDepth 100000 in
set_option maxHeartbeats 3200000 in
theorem pass3 (base R T A : Nat) (s : ByteArray) (k : Nat) (V : Value) (L : List Tk) (kd : Int) (tn : ByteArray) (w0 : World) (Rz : Option (List Att × Bool × List UInt8)) (F : Fix base R T s k V L w0) (N : Nat) (Q : Exit → Act → World → Prop)
    (hQ : jumps (fun l' a' w' => JA w0 R T A s V kd tn Rz l' a' w' ∧ muA R s l' w' < N) (bodyPost Tryd.prog Tryd.f103 (AtPost base R T s V L kd tn w0 Rz)) = Q)
    (a : Act) (ha : ∃ u, a = frA R T A u) (W : World) (m : Nat) (VA : Value) (ats : List Att) (x y : List UInt8) (C : Co w0 W R T A s m V kd tn VA ats x y) (hm : m ≤ s.size) (hl : AtL s Rz m ats x y 3) (hN : 4 * (s.size - m) + 2 ≤ N) :
    Code.wp Tryd.prog (codeL Tryd.f103 3) Q a W := by
  obtain ⟨u, rfl⟩ := ha
  unfold frA
  have h5 := pass5 base R T A s k V L kd tn w0 Rz F N Q hQ
  simp only [codeL, inScp, aftLb, codeA, Tryd.f103, findLabel, Nat.reduceBEq, Bool.false_eq_true, ↓reduceIte] at h5
  simp only [codeL, inScp, aftLb, codeA, Tryd.f103, findLabel, Nat.reduceBEq, Bool.false_eq_true, ↓reduceIte]
  subst hQ
  obtain ⟨hy, has, hz⟩ := hl
  subst hy
  have hs0 := F.hs
  by_cases hge : s.size ≤ m
  · obtain rfl : m = s.size := by omega
    have Hnx := hid (C.next_none F)
    have Hz := hid hz
    have HF := hid F
    clear C F hz
    go_wp2_with (go_at_call 115; refine Hnx.out.mono ?_; rintro e1 w1 ⟨rfl, C1⟩)
    go_ret
    exact C1.fail HF.out (Nat.le_refl _) (by rw [← Hz.out, List.drop_of_length_le (by rw [len_data]; exact Nat.le_refl _), at_nil])
  have hlt : m < s.size := by omega
  obtain ⟨n, hn, hn0, hn1, hbn⟩ := byteOf s m hlt
  have Hd := hid (dropAt s m hlt)
  rw [← hbn] at Hd
  rw [Hd.out] at hz
  have Hz := hid hz
  have Hbn := hid hbn
  have Hnx := hid (C.next_some F hlt)
  rw [hn] at Hnx
  have Hbl := hid (fun W => (blank_any n hn0 hn1 W).mono fun e w' h => (⟨h.1, h.2.symm⟩ : e = _ ∧ w' = W))
  have HF := hid F
  have HC := hid C
  clear hz hn hbn C F
  by_cases hb : isBlank (bOf n) = true
  · rw [hb] at Hbl
    go_wp2_with (first
      | (go_at_call 115; refine Hnx.out.mono ?_; rintro e1 w1 ⟨rfl, C1⟩)
      | (go_at_call 101; refine (Hbl.out _).mono ?_; rintro e2 w1 ⟨rfl, hw2⟩; obtain rfl := hw2))
    refine wp_goto ?_
    refine JA.of C1 ?_ (by omega) ?_ ?_
    · kernel_rfl
    · exact ⟨rfl, by omega, by rw [← Hz.out]; exact (at3_b x _ ats hb).symm⟩
    · simp only [wtL]; omega
  have hb' : isBlank (bOf n) = false := by simpa using hb
  clear hb
  rw [hb'] at Hbl
  by_cases h61 : n = 61
  · subst h61
    go_wp2_with (first
      | (go_at_call 115; refine Hnx.out.mono ?_; rintro e1 w1 ⟨rfl, C1⟩)
      | (go_at_call 101; refine (Hbl.out _).mono ?_; rintro e2 w1 ⟨rfl, hw2⟩; obtain rfl := hw2))
    refine wp_goto ?_
    refine JA.of C1 ?_ (by omega) ?_ ?_
    · kernel_rfl
    · exact ⟨rfl, by omega, by rw [← Hz.out]; exact (at3_q x _ ats).symm⟩
    · simp only [wtL]; omega
  go_wp2_with (first
    | (go_at_call 115; refine Hnx.out.mono ?_; rintro e1 w1 ⟨rfl, C1⟩)
    | (go_at_call 101; refine (Hbl.out _).mono ?_; rintro e2 w1 ⟨rfl, hw2⟩; obtain rfl := hw2))
  refine wp_label ?_
  refine (by assumption : ∀ (a : Act) (w : World), Code.wp _ _ _ a w → Exit.then _ _ Exit.normal a w) _ _ ?_
  refine h5 _ ?_ w1 (m + 1) VA ats x [] C1 (by omega) ⟨rfl, by omega, ?_⟩ (by omega)
  · exact frame_ex (by kernel_rfl)
  · rw [← Hz.out, Nat.add_sub_cancel, Hd.out]
    exact (at3_o x _ ats hb' (bOf_no n hn0 hn1 61 61 rfl h61)).symm
end Go.Proofs.YtihgmgpcdodknaaDoor
