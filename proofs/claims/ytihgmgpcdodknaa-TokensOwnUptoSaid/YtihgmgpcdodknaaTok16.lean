/- The reader's bogus, opens. -/
import Derived.Test.YtihgmgpcdodknaaTok12
set_option linter.unusedVariables false
namespace Go.Proofs.Ytihgmgpcdodknaa
open Go.RowKit

def PB (base R : Nat) (s : ByteArray) (V : Value) (L : List Tk) (w : World) (r : List UInt8) (e : Ending) (w' : World) : Prop :=
  e = .returned (.tuple #[]) ∧ ∃ k', k' ≤ s.size ∧ s.data.toList.drop k' = r ∧ Rd w' base R s k' V L ∧ Fr R none none w w'
set_option maxRecDepth 100000 in
set_option maxHeartbeats 1600000 in
theorem bogus_any (base R : Nat) (s : ByteArray) (k : Nat) (V : Value) (L : List Tk) (w : World) (hs : s.size ≤ 65536) (hk : k ≤ s.size) (h : Rd w base R s k V L) :
    Calls Try.prog 62 #[.pointer (some ⟨R, 0, none⟩)] w (PB base R s V L w (bogusS (s.data.toList.drop k))) := by
  have H := hid h
  have c0 := h.c0
  have c1 := h.c1
  have f1 := h.fz 1
  obtain ⟨res, hres⟩ : ∃ res, bogusS (s.data.toList.drop k) = res := ⟨_, rfl⟩
  rw [hres]
  have Hres := hid hres
  have hk0 : (0 : Int) ≤ (k : Int) := by omega
  have hk1 : (k : Int) ≤ (s.size : Int) := by omega
  have Hix := hid (fun W => Try.strings_IndexByte (s.extract k s.size) 62 W)
  obtain ⟨i, hii⟩ : ∃ i, Lib.indexByte (s.data.toList.drop k) 62 = i := ⟨_, rfl⟩
  have he : Lib.indexByte (s.extract k s.size).data.toList (62 : Int).toNat.toUInt8 = i := by rw [data_extract, take_all]; exact hii
  rw [he] at Hix
  have Hii := hid hii
  clear h hres he hii
  by_cases hi : i < 0
  · have hid1 : decide (i < 0) = true := decide_eq_true hi
    go_enter Try.func62, Try.ntmps62
    go_wp2_with (go_quiet ((go_at_call 78; exact Calls.quiet_of_same (Hix.out _))))
    go_end0
    refine ⟨rfl, s.size, Nat.le_refl _, ?_, (rd_drewN H.out _).atI s.size (by omega), ((Fr.refl _ _ _).drewN _).trans (Fr.setR 1 _)⟩
    rw [← Hres.out, List.drop_of_length_le (by rw [len_data]; exact Nat.le_refl _)]
    unfold bogusS
    rw [Hii.out, if_pos hi]
  · obtain ⟨j, rfl⟩ : ∃ j : Nat, i = (j : Int) := ⟨i.toNat, by omega⟩
    have hlt := idx_lt _ _ _ Hii.out
    rw [List.length_drop, len_data] at hlt
    have hid1 : decide ((j : Int) < 0) = false := decide_eq_false hi
    go_enter Try.func62, Try.ntmps62
    go_wp2_with (go_quiet ((go_at_call 78; exact Calls.quiet_of_same (Hix.out _))))
    go_end0
    refine ⟨rfl, k + j + 1, by omega, ?_, (rd_drewN H.out _).atI (k + j + 1) (by omega), ((Fr.refl _ _ _).drewN _).trans (Fr.setR 1 _)⟩
    rw [← Hres.out]
    unfold bogusS
    rw [Hii.out, if_neg (by omega), Int.toNat_natCast, List.drop_drop]
    congr 1

theorem str_nil_ne (t : ByteArray) (h : t.size ≠ 0) : (t.toList == []) = false := by
  rw [ByteArray.toList_eq, beq_eq_false_iff_ne]
  intro e
  exact h (by rw [← len_data, e]; rfl)
theorem opensB_47 (r : List UInt8) (h : r ≠ []) : opensB (47 :: r) = true := by
  show (if (47 : UInt8) = 47 ∧ r = [] then false else _) = true
  rw [if_neg (fun e => h e.2)]; rfl
theorem opensB_c (c : UInt8) (r : List UInt8) (h : c ≠ 47) : opensB (c :: r) = (c == 33 || c == 63 || isLetter c) := by
  show (if c = 47 ∧ r = [] then false else _) = _
  rw [if_neg (fun e => h e.1), show (c == 47) = false by simpa using h]
  rfl
set_option maxRecDepth 100000 in
set_option maxHeartbeats 1600000 in
theorem opens_any (base R : Nat) (s : ByteArray) (k : Nat) (V : Value) (L : List Tk) (i : Nat) (w : World) (hs : s.size ≤ 65536) (hi : i < s.size) (h : Rd w base R s k V L) :
    Calls Try.prog 38 #[.pointer (some ⟨R, 0, none⟩), .int .i64 (i : Int)] w fun e w' => e = .returned (.bool (opensB (s.data.toList.drop (i + 1)))) ∧ w' = w := by
  have c0 := h.c0
  obtain ⟨res, hres⟩ : ∃ res, opensB (s.data.toList.drop (i + 1)) = res := ⟨_, rfl⟩
  rw [hres]
  have Hres := hid hres
  obtain ⟨p, hp⟩ : ∃ p, i + 1 = p := ⟨_, rfl⟩
  rw [hp] at Hres
  have hp1 : (i : Int) + 1 = (p : Int) := by omega
  have hp2 : p ≤ s.size := by omega
  have hp3 : (p : Int) ≤ (s.size : Int) := by omega
  have hp4 : (0 : Int) ≤ (p : Int) := by omega
  clear h hres hp
  obtain ⟨t, ht⟩ : ∃ t, s.extract p s.size = t := ⟨_, rfl⟩
  have Ht : Hid (t.data.toList = s.data.toList.drop p) := hid (by rw [← ht, data_extract, take_all])
  have hts : t.size = s.size - p := by rw [← len_data, Ht.out, List.length_drop, len_data]
  by_cases h0 : p = s.size
  · have ht0 : t = ⟨#[]⟩ := empty_of (by omega)
    subst ht0
    go_enter Try.func38, Try.ntmps38
    go_wp2
    go_ret
    refine ⟨?_, rfl⟩
    rw [show res = false from by rw [← Hres.out, ← Ht.out]; rfl] <;> rfl
  · have hlt0 : 0 < t.size := by omega
    obtain ⟨n, hn, hn0, hn1, hbn⟩ := byteOf t 0 hlt0
    have Hcons : Hid (t.data.toList = bOf n :: t.data.toList.drop 1) := hid (by have := dropAt t 0 hlt0; rw [List.drop_zero, ← hbn] at this; exact this)
    have hts0 : (0 : Int) < (t.size : Int) := by omega
    have hl := str_nil_ne t (by omega)
    by_cases h47 : n = 47
    · subst h47
      by_cases h1 : t.size = 1
      · have hq : (t.toList == [47]) = true := by
          rw [ByteArray.toList_eq, Hcons.out, List.drop_of_length_le (by rw [len_data]; omega)]; rfl
        go_enter Try.func38, Try.ntmps38
        go_wp2
        go_ret
        refine ⟨?_, rfl⟩
        rw [show res = false from by rw [← Hres.out, ← Ht.out, Hcons.out, List.drop_of_length_le (by rw [len_data]; omega)]; rfl] <;> rfl
      · have hq : (t.toList == [47]) = false := by
          rw [ByteArray.toList_eq, beq_eq_false_iff_ne]
          intro e
          have := congrArg List.length e
          rw [len_data] at this
          exact h1 this
        go_enter Try.func38, Try.ntmps38
        go_wp2
        go_ret
        refine ⟨?_, rfl⟩
        rw [show res = true from by rw [← Hres.out, ← Ht.out, Hcons.out]; exact opensB_47 _ (fun e => by have := congrArg List.length e; rw [List.length_drop, len_data] at this; simp at this; omega)] <;> rfl
    · have hq : (t.toList == [47]) = false := by
        rw [ByteArray.toList_eq, Hcons.out, beq_eq_false_iff_ne]
        intro e
        injection e with e1 e2
        exact bOf_no n hn0 hn1 47 47 rfl h47 e1
      have h47b : (n == 47) = false := beq_eq_false_iff_ne.2 h47
      have Hr := hid (show res = (bOf n == 33 || bOf n == 63 || isLetter (bOf n)) from by rw [← Hres.out, ← Ht.out, Hcons.out]; exact opensB_c _ _ (bOf_no n hn0 hn1 47 47 rfl h47))
      by_cases h33 : n = 33
      · subst h33
        go_enter Try.func38, Try.ntmps38
        go_wp2
        go_ret
        refine ⟨?_, rfl⟩
        rw [show res = true from by rw [Hr.out]; rfl] <;> rfl
      · have h33b : (n == 33) = false := beq_eq_false_iff_ne.2 h33
        by_cases h63 : n = 63
        · subst h63
          go_enter Try.func38, Try.ntmps38
          go_wp2
          go_ret
          refine ⟨?_, rfl⟩
          rw [show res = true from by rw [Hr.out]; rfl] <;> rfl
        · have h63b : (n == 63) = false := beq_eq_false_iff_ne.2 h63
          have Hl := hid (fun W => letter_any n hn0 hn1 W)
          have e1 := bOf_no n hn0 hn1 33 33 rfl h33
          have e2 := bOf_no n hn0 hn1 63 63 rfl h63
          have Hr2 : Hid (res = isLetter (bOf n)) := hid (by rw [Hr.out]; simp [e1, e2])
          clear e1 e2
          go_enter Try.func38, Try.ntmps38
          go_wp2_with (go_at_call 57; refine (Hl.out _).mono ?_; rintro e2 w2 ⟨rfl, hw2⟩; obtain rfl := hw2)
          go_ret
          refine ⟨?_, rfl⟩
          rw [Hr2.out, hbn] <;> rfl
end Go.Proofs.Ytihgmgpcdodknaa
