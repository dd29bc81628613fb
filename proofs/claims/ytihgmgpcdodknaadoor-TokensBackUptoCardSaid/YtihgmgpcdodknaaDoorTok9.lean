/- The reader's attrs: the pass from label 1. -/
import Derived.Test.YtihgmgpcdodknaaDoorTok4
set_option linter.unusedVariables false
namespace Go.Proofs.YtihgmgpcdodknaaDoor
open Go.RowKit

set_option maxRecDepth 100000 in
set_option maxHeartbeats 3200000 in
theorem pass1 (base R T A : Nat) (s : ByteArray) (k : Nat) (V : Value) (L : List Tk) (kd : Int) (tn : ByteArray) (w0 : World) (Rz : Option (List Att × Bool × List UInt8)) (F : Fix base R T s k V L w0) (N : Nat) (Q : Exit → Act → World → Prop)
    (hQ : jumps (fun l' a' w' => JA w0 R T A s V kd tn Rz l' a' w' ∧ muA R s l' w' < N) (bodyPost Tryd.prog Tryd.f103 (AtPost base R T s V L kd tn w0 Rz)) = Q)
    (a : Act) (ha : ∃ u, a = frA R T A u) (W : World) (m : Nat) (VA : Value) (ats : List Att) (x y : List UInt8) (C : Co w0 W R T A s m V kd tn VA ats x y) (hm : m ≤ s.size) (hl : AtL s Rz m ats x y 1) (hN : 4 * (s.size - m) + 1 ≤ N) :
    Code.wp Tryd.prog (codeL Tryd.f103 1) Q a W := by
  obtain ⟨u, rfl⟩ := ha
  unfold frA
  simp only [codeL, inScp, aftLb, codeA, Tryd.f103, findLabel, Nat.reduceBEq, Bool.false_eq_true, ↓reduceIte]
  subst hQ
  obtain ⟨has, hz⟩ := hl
  have hs0 := F.hs
  by_cases hge : s.size ≤ m
  · obtain rfl : m = s.size := by omega
    have Hnx := hid (C.next_none F)
    have Hz := hid hz
    have HF := hid F
    clear C F hz
    go_wp2_with (go_at_call 115; refine Hnx.out.mono ?_; rintro e1 w1 ⟨rfl, C1⟩)
    go_ret
    exact C1.fail HF.out (Nat.le_refl _) (by rw [← Hz.out, List.drop_of_length_le (by rw [len_data]; exact Nat.le_refl _), at_nil])
  have hlt : m < s.size := by omega
  obtain ⟨n, hn, hn0, hn1, hbn⟩ := byteOf s m hlt
  have Hd := hid (dropAt s m hlt)
  rw [← hbn] at Hd
  rw [Hd.out] at hz
  have Hz := hid hz
  have Hbn := hid hbn
  have Hnx := hid (C.next_some F hlt)
  rw [hn] at Hnx
  have HF := hid F
  have HC := hid C
  clear hz hn hbn C F
  by_cases h62 : n = 62
  · subst h62
    go_wp2_with (go_at_call 115; refine Hnx.out.mono ?_; rintro e1 w1 ⟨rfl, C1⟩; have HC1 := hid C1; have c1 := C1.c1; have f1 : w1.frozen? ⟨R, 1, none⟩ = false := C1.r.frozen 1; have t4 := C1.t4; have f4 : w1.frozen? ⟨T, 4, none⟩ = false := C1.t.frozen 4; clear C1)
    go_ret
    exact HC1.out.closed HF.out (by omega) rfl (by rw [← Hz.out]; exact (at1_e _ ats).symm)
  go_wp2_with (go_at_call 115; refine Hnx.out.mono ?_; rintro e1 w1 ⟨rfl, C1⟩; have HC1 := hid C1; have c1 := C1.c1; have f1 : w1.frozen? ⟨R, 1, none⟩ = false := C1.r.frozen 1; have t4 := C1.t4; have f4 : w1.frozen? ⟨T, 4, none⟩ = false := C1.t.frozen 4; clear C1)
  have C2 := HC1.out.posI m (i := (m : Int)) rfl
  refine wp_goto ?_
  refine JA.of C2 ?_ (by omega) ?_ ?_
  · kernel_rfl
  · exact ⟨by omega, by rw [← Hz.out, Hd.out]; exact (at1_o _ ats (bOf_no n hn0 hn1 62 62 rfl h62)).symm⟩
  · simp only [wtL]; omega
end Go.Proofs.YtihgmgpcdodknaaDoor
