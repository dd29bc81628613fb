/- The reader's attrs: the pass from label 2. -/
import Derived.Test.YtihgmgpcdodknaaDoorTok4
set_option linter.unusedVariables false
namespace Go.Proofs.YtihgmgpcdodknaaDoor
open Go.RowKit

set_option maxRecDepth 100000 in
set_option maxHeartbeats 3200000 in
theorem pass2 (base R T A : Nat) (s : ByteArray) (k : Nat) (V : Value) (L : List Tk) (kd : Int) (tn : ByteArray) (w0 : World) (Rz : Option (List Att × Bool × List UInt8)) (F : Fix base R T s k V L w0) (N : Nat) (Q : Exit → Act → World → Prop)
    (hQ : jumps (fun l' a' w' => JA w0 R T A s V kd tn Rz l' a' w' ∧ muA R s l' w' < N) (bodyPost Tryd.prog Tryd.f103 (AtPost base R T s V L kd tn w0 Rz)) = Q)
    (a : Act) (ha : ∃ u, a = frA R T A u) (W : World) (m : Nat) (VA : Value) (ats : List Att) (x y : List UInt8) (C : Co w0 W R T A s m V kd tn VA ats x y) (hm : m ≤ s.size) (hl : AtL s Rz m ats x y 2) (hN : 4 * (s.size - m) + 2 ≤ N) :
    Code.wp Tryd.prog (codeL Tryd.f103 2) Q a W := by
  obtain ⟨u, rfl⟩ := ha
  unfold frA
  simp only [codeL, inScp, aftLb, codeA, Tryd.f103, findLabel, Nat.reduceBEq, Bool.false_eq_true, ↓reduceIte]
  subst hQ
  obtain ⟨hy, hx, has, hz⟩ := hl
  subst hy
  have hs0 := F.hs
  by_cases hge : s.size ≤ m
  · obtain rfl : m = s.size := by omega
    have Hnx := hid (C.next_none F)
    have Hz := hid hz
    have HF := hid F
    clear C F hz
    go_wp2_with (go_at_call 115; refine Hnx.out.mono ?_; rintro e1 w1 ⟨rfl, C1⟩)
    go_ret
    exact C1.fail HF.out (Nat.le_refl _) (by rw [← Hz.out, List.drop_of_length_le (by rw [len_data]; exact Nat.le_refl _), at_nil])
  have hlt : m < s.size := by omega
  obtain ⟨n, hn, hn0, hn1, hbn⟩ := byteOf s m hlt
  have Hd := hid (dropAt s m hlt)
  rw [← hbn] at Hd
  rw [Hd.out] at hz
  have Hz := hid hz
  have Hbn := hid hbn
  have Hnx := hid (C.next_some F hlt)
  rw [hn] at Hnx
  have Hbl := hid (fun W => (blank_any n hn0 hn1 W).mono fun e w' h => (⟨h.1, h.2.symm⟩ : e = _ ∧ w' = W))
  have HF := hid F
  have HC := hid C
  clear hz hn hbn C F
  by_cases hb : isBlank (bOf n) = true
  · rw [hb] at Hbl
    go_wp2_with (first
      | (go_at_call 115; refine Hnx.out.mono ?_; rintro e1 w1 ⟨rfl, C1⟩)
      | (go_at_call 101; refine (Hbl.out _).mono ?_; rintro e2 w1 ⟨rfl, hw2⟩; obtain rfl := hw2))
    refine wp_goto ?_
    refine JA.of C1 ?_ (by omega) ?_ ?_
    · kernel_rfl
    · exact ⟨rfl, by omega, by rw [← Hz.out]; exact (at2_b x _ ats hb).symm⟩
    · simp only [wtL]; omega
  have hb' : isBlank (bOf n) = false := by simpa using hb
  clear hb
  rw [hb'] at Hbl
  by_cases h61 : n = 61
  · subst h61
    go_wp2_with (first
      | (go_at_call 115; refine Hnx.out.mono ?_; rintro e1 w1 ⟨rfl, C1⟩)
      | (go_at_call 101; refine (Hbl.out _).mono ?_; rintro e2 w1 ⟨rfl, hw2⟩; obtain rfl := hw2))
    refine wp_goto ?_
    refine JA.of C1 ?_ (by omega) ?_ ?_
    · kernel_rfl
    · exact ⟨rfl, by omega, by rw [← Hz.out]; exact (at2_q x _ ats).symm⟩
    · simp only [wtL]; omega
  have h61b : (n == 61) = false := beq_eq_false_iff_ne.2 h61
  by_cases h47 : n = 47
  · subst h47
    go_wp2_with (first
      | (go_at_call 115; refine Hnx.out.mono ?_; rintro e1 w1 ⟨rfl, C1⟩)
      | (go_at_call 101; refine (Hbl.out _).mono ?_; rintro e2 w1 ⟨rfl, hw2⟩; obtain rfl := hw2))
    refine wp_goto ?_
    refine JA.of C1 ?_ (by omega) ?_ ?_
    · kernel_rfl
    · exact ⟨rfl, by omega, by rw [← Hz.out, Nat.add_sub_cancel, Hd.out]; exact (at2_e x _ ats (by decide)).symm⟩
    · simp only [wtL]; omega
  have h47b : (n == 47) = false := beq_eq_false_iff_ne.2 h47
  by_cases h62 : n = 62
  · subst h62
    go_wp2_with (first
      | (go_at_call 115; refine Hnx.out.mono ?_; rintro e1 w1 ⟨rfl, C1⟩)
      | (go_at_call 101; refine (Hbl.out _).mono ?_; rintro e2 w1 ⟨rfl, hw2⟩; obtain rfl := hw2))
    refine wp_goto ?_
    refine JA.of C1 ?_ (by omega) ?_ ?_
    · kernel_rfl
    · exact ⟨rfl, by omega, by rw [← Hz.out, Nat.add_sub_cancel, Hd.out]; exact (at2_e x _ ats (by decide)).symm⟩
    · simp only [wtL]; omega
  have h62b : (n == 62) = false := beq_eq_false_iff_ne.2 h62
  have Hlo := hid (fun W => lower_any (s.extract m (m + 1)) W (by rw [ByteArray.size_extract]; omega))
  have hlw : low (s.extract m (m + 1)).data.toList = [lowB (bOf n)] := by
    rw [data_extract, List.drop_take, Hd.out]
    simp [low]
  rw [hlw] at Hlo
  clear hlw
  obtain ⟨bx, hbx⟩ : ∃ bx, bs x = bx := ⟨_, rfl⟩
  have Hbx := hid hbx
  clear hbx
  go_wp2_with (first
    | (go_at_call 115; refine Hnx.out.mono ?_; rintro e1 w1 ⟨rfl, C1⟩)
    | (go_at_call 101; refine (Hbl.out _).mono ?_; rintro e2 w1 ⟨rfl, hw2⟩; obtain rfl := hw2))
  have HC1 := hid C1
  have c0 := C1.c0
  have c1 := C1.c1
  have a0 := C1.a0
  rw [Hbx.out] at a0
  have fa : w1.frozen? ⟨A, 0, none⟩ = false := C1.a.frozen 0
  have hra := C1.ra
  have hRlt := C1.r.lt
  have hAlt := C1.a.lt
  clear C1
  obtain ⟨p, hp⟩ : ∃ p, m + 1 = p := ⟨_, rfl⟩
  rw [hp] at HC1 c1 Hlo
  have hk0 : (1 : Int) ≤ (p : Int) := by omega
  have hk6 : 1 ≤ p := by omega
  have hk1 : (p : Int) ≤ (s.size : Int) := by omega
  have hk2 : (p : Int) - 1 ≤ (p : Int) := by omega
  have hk5 : p ≤ s.size := by omega
  have Hsz := hid (fun a b => (by rw [ByteArray.size_extract]; omega : (s.extract a b).size ≤ 1099511627776))
  have Hp := hid hp
  clear hp
  have hw3 : IntKind.i64.wrap ((p : Int) - 1) = (p : Int) - 1 := IntWalk.i64_in _ (by omega)
  have Hct := hid (fun (t : ByteArray) (ht : t.data.toList = low (s.extract (p - 1) p).data.toList) => (by
    have h1 : t.size = (s.extract (p - 1) p).size := by rw [← len_data, ht, low, List.length_map, len_data]
    have h2 : bx.size = x.length := by rw [← Hbx.out]; rfl
    rw [ByteArray.size_extract] at h1
    omega : ¬ 9223372036854775807 < bx.size + t.size))
  refine wp_region_noPanic ?_
  go_region_law ((go_simp; go_at_call 102; refine (lower_any _ _ (Hsz.out _ _)).mono ?_; rintro e' w' ⟨t, rfl, ht, hbk⟩; have d0 := cell_aft (v := .string s) hbk hRlt c0; have d1 := cell_aft (v := .int .i64 (p : Int)) hbk hRlt c1; have da := cell_aft (v := .string bx) hbk hAlt a0; have df := (hbk.frozen (p := ⟨A, 0, none⟩) hAlt).trans fa; have hct := Hct.out t ht.out; dsimp only))
  all_goals
    refine NoPanic.normal ?_
    clear hct d0 d1 da df
    have hz2 : bx ++ t = bs (x ++ [lowB (bOf n)]) := bs_of (by rw [data_append, ht.out, ← Hbx.out, ← Hp.out, Nat.add_sub_cancel, bs_list, data_extract, List.drop_take, Hd.out]; simp [low])
    have C2 := (HC1.out.below (((Below.refl _ _).drew).trans hbk)).set0 _ hz2
    clear ht hbk
    go_wp2
    refine wp_goto ?_
    refine JA.of C2 ?_ (by omega) ?_ ?_
    · kernel_rfl
    · exact ⟨rfl, by rw [List.length_append, ← Hp.out]; simp; omega, by rw [← Hp.out]; omega, by rw [← Hz.out, ← Hp.out]; exact (at2_n x _ ats hb' (bOf_no n hn0 hn1 61 61 rfl h61) (bOf_no n hn0 hn1 47 47 rfl h47) (bOf_no n hn0 hn1 62 62 rfl h62)).symm⟩
    · have := Hp.out; simp only [wtL]; omega
end Go.Proofs.YtihgmgpcdodknaaDoor
