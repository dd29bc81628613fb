/- The reader's attrs: the pass from label 0. -/
import Derived.Test.YtihgmgpcdodknaaDoorTok7
set_option linter.unusedVariables false
namespace Go.Proofs.YtihgmgpcdodknaaDoor
open Go.RowKit

set_option maxRecDepth 100000 in
set_option maxHeartbeats 3200000 in
theorem pass0 (base R T A : Nat) (s : ByteArray) (k : Nat) (V : Value) (L : List Tk) (kd : Int) (tn : ByteArray) (w0 : World) (Rz : Option (List Att × Bool × List UInt8)) (F : Fix base R T s k V L w0) (N : Nat) (Q : Exit → Act → World → Prop)
    (hQ : jumps (fun l' a' w' => JA w0 R T A s V kd tn Rz l' a' w' ∧ muA R s l' w' < N) (bodyPost Tryd.prog Tryd.f103 (AtPost base R T s V L kd tn w0 Rz)) = Q)
    (a : Act) (ha : ∃ u, a = frA R T A u) (W : World) (m : Nat) (VA : Value) (ats : List Att) (x y : List UInt8) (C : Co w0 W R T A s m V kd tn VA ats x y) (hm : m ≤ s.size) (hl : AtL s Rz m ats x y 0) (hN : 4 * (s.size - m) + 0 ≤ N) :
    Code.wp Tryd.prog (codeL Tryd.f103 0) Q a W := by
  obtain ⟨u, rfl⟩ := ha
  unfold frA
  have h2 := pass2 base R T A s k V L kd tn w0 Rz F N Q hQ
  simp only [codeL, inScp, aftLb, codeA, Tryd.f103, findLabel, Nat.reduceBEq, Bool.false_eq_true, ↓reduceIte] at h2
  simp only [codeL, inScp, aftLb, codeA, Tryd.f103, findLabel, Nat.reduceBEq, ↓reduceIte]
  subst hQ
  obtain ⟨has, hz⟩ := hl
  have hs0 := F.hs
  by_cases hge : s.size ≤ m
  · obtain rfl : m = s.size := by omega
    have Hnx := hid (C.next_none F)
    have Hz := hid hz
    have HF := hid F
    clear C F hz
    go_wp2_with (go_at_call 115; refine Hnx.out.mono ?_; rintro e1 w1 ⟨rfl, C1⟩)
    go_ret
    exact C1.fail HF.out (Nat.le_refl _) (by rw [← Hz.out, List.drop_of_length_le (by rw [len_data]; exact Nat.le_refl _), at_nil])
  have hlt : m < s.size := by omega
  obtain ⟨n, hn, hn0, hn1, hbn⟩ := byteOf s m hlt
  have Hd := hid (dropAt s m hlt)
  rw [← hbn] at Hd
  rw [Hd.out] at hz
  have Hz := hid hz
  have Hbn := hid hbn
  have Hnx := hid (C.next_some F hlt)
  rw [hn] at Hnx
  have Hbl := hid (fun W => (blank_any n hn0 hn1 W).mono fun e w' h => (⟨h.1, h.2.symm⟩ : e = _ ∧ w' = W))
  have HF := hid F
  have HC := hid C
  clear hz hn hbn C F
  by_cases hb : isBlank (bOf n) = true
  · rw [hb] at Hbl
    go_wp2_with (first
      | (go_at_call 115; refine Hnx.out.mono ?_; rintro e1 w1 ⟨rfl, C1⟩)
      | (go_at_call 101; refine (Hbl.out _).mono ?_; rintro e2 w1 ⟨rfl, hw2⟩; obtain rfl := hw2))
    refine wp_goto ?_
    refine JA.of C1 ?_ (by omega) ?_ ?_
    · kernel_rfl
    · exact ⟨by omega, by rw [← Hz.out]; exact (at0_b _ ats hb).symm⟩
    · simp only [wtL]; omega
  have hb' : isBlank (bOf n) = false := by simpa using hb
  clear hb
  rw [hb'] at Hbl
  by_cases h47 : n = 47
  · subst h47
    go_wp2_with (first
      | (go_at_call 115; refine Hnx.out.mono ?_; rintro e1 w1 ⟨rfl, C1⟩)
      | (go_at_call 101; refine (Hbl.out _).mono ?_; rintro e2 w1 ⟨rfl, hw2⟩; obtain rfl := hw2))
    refine wp_goto ?_
    refine JA.of C1 ?_ (by omega) ?_ ?_
    · kernel_rfl
    · exact ⟨by omega, by rw [← Hz.out]; exact (at0_s _ ats).symm⟩
    · simp only [wtL]; omega
  have h47b : (n == 47) = false := beq_eq_false_iff_ne.2 h47
  by_cases h62 : n = 62
  · subst h62
    go_wp2_with (first
      | (go_at_call 115; refine Hnx.out.mono ?_; rintro e1 w1 ⟨rfl, C1⟩)
      | (go_at_call 101; refine (Hbl.out _).mono ?_; rintro e2 w1 ⟨rfl, hw2⟩; obtain rfl := hw2))
    go_ret
    exact C1.done_ HF.out (by omega) rfl (by rw [← Hz.out]; exact (at0_e _ ats).symm)
  have h62b : (n == 62) = false := beq_eq_false_iff_ne.2 h62
  go_wp2_with (first
    | (go_at_call 115; refine Hnx.out.mono ?_; rintro e1 w1 ⟨rfl, C1⟩)
    | (go_at_call 101; refine (Hbl.out _).mono ?_; rintro e2 w1 ⟨rfl, hw2⟩; obtain rfl := hw2))
  have HC1 := hid C1
  have c0 := C1.c0
  have c1 := C1.c1
  have a0 := gs_of C1.a0
  have a1 := gt_of C1.a1
  have fa : w1.frozen? ⟨A, 0, none⟩ = false := C1.a.frozen 0
  have fb : w1.frozen? ⟨A, 1, none⟩ = false := C1.a.frozen 1
  have hra := C1.ra
  have hRlt := C1.r.lt
  have hAlt := C1.a.lt
  clear C1
  obtain ⟨p, hp⟩ : ∃ p, m + 1 = p := ⟨_, rfl⟩
  rw [hp] at HC1 c1
  have hk0 : (1 : Int) ≤ (p : Int) := by omega
  have hk6 : 1 ≤ p := by omega
  have hk1 : (p : Int) ≤ (s.size : Int) := by omega
  have hk2 : (p : Int) - 1 ≤ (p : Int) := by omega
  have hk5 : p ≤ s.size := by omega
  have Hsz := hid (fun a b => (by rw [ByteArray.size_extract]; omega : (s.extract a b).size ≤ 1099511627776))
  have Hp := hid hp
  clear hp
  have hw3 : IntKind.i64.wrap ((p : Int) - 1) = (p : Int) - 1 := IntWalk.i64_in _ (by omega)
  go_region_held3 (fun w' => w'.cell? ⟨R, 0, none⟩ = some (.string s) ∧ w'.cell? ⟨R, 1, none⟩ = some (.int .i64 (p : Int)) ∧ w'.cell? ⟨A, 0, none⟩ = some (.string (gS w' A)) ∧ w'.cell? ⟨A, 1, none⟩ = some (.string (gT w' A)) ∧ w'.frozen? ⟨A, 0, none⟩ = false ∧ w'.frozen? ⟨A, 1, none⟩ = false ∧ R < w'.heap.size ∧ A < w'.heap.size)
    (first
      | exact ⟨c0, c1, a0, a1, fa, fb, hRlt, hAlt⟩
      | (go_split_ands
         exact ⟨cell_aft hbk (by assumption) (by assumption), cell_aft hbk (by assumption) (by assumption), gs_aft hbk (by assumption) (by assumption), gt_aft hbk (by assumption) (by assumption), (hbk.frozen (p := ⟨A, 0, none⟩) (by assumption)).trans (by assumption), (hbk.frozen (p := ⟨A, 1, none⟩) (by assumption)).trans (by assumption), size_aft hbk (by assumption), size_aft hbk (by assumption)⟩)
      | (go_split_ands
         exact ⟨(cell_far0 (Ne.symm hra)).trans ((cell_far0 (Ne.symm hra)).trans (by assumption)), (cell_far0 (Ne.symm hra)).trans ((cell_far0 (Ne.symm hra)).trans (by assumption)), gs_two (by assumption), gt_set (cell_off0.trans (by assumption)), frz_set (frz_set (by assumption)), frz_set (frz_set (by assumption)), by simpa [World.setCell] using (by assumption : R < _), by simpa [World.setCell] using (by assumption : A < _)⟩)
      | go_keep)
    (first
      | (go_at_call 102; refine (lower_any _ _ (Hsz.out _ _)).mono ?_; rintro e' w' ⟨t, rfl, ht, hbk⟩))
  all_goals

    have hz2 : t = bs [lowB (bOf n)] := bs_of (by rw [ht.out, ← Hp.out, Nat.add_sub_cancel, data_extract, List.drop_take, Hd.out]; simp [low])
    have C2 := ((HC1.out.below (((Below.refl _ _).drew).trans hbk)).set0 _ hz2).set1 [] (z := ⟨#[]⟩) rfl
    clear ht hbk
    go_wp2
    refine wp_label ?_
    refine (by assumption : ∀ (a : Act) (w : World), Code.wp _ _ _ a w → Exit.then _ _ Exit.normal a w) _ _ ?_
    have hpp := Hp.out
    refine h2 _ ?_ _ p VA ats [lowB (bOf n)] [] C2 (by omega) ⟨rfl, by simp; omega, by omega, ?_⟩ (by omega)
    · exact frame_ex (by kernel_rfl)
    · rw [← Hz.out, ← hpp]
      exact (at0_n _ ats hb' (bOf_no n hn0 hn1 47 47 rfl h47) (bOf_no n hn0 hn1 62 62 rfl h62)).symm
end Go.Proofs.YtihgmgpcdodknaaDoor
