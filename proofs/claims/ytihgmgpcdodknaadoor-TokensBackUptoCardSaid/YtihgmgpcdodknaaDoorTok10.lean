/- The reader's attrs: the pass from label 4. -/
import Derived.Test.YtihgmgpcdodknaaDoorTok4
set_option linter.unusedVariables false
namespace Go.Proofs.YtihgmgpcdodknaaDoor
open Go.RowKit
section
variable {base k : Nat} {L : List Tk} {w0 W W' : World} {R T A : Nat} {s : ByteArray} {m : Nat} {V : Value} {kd : Int} {tn : ByteArray} {VA : Value} {ats : List Att} {x y : List UInt8} {Rz : Option (List Att × Bool × List UInt8)}
theorem Co.quoted_no (C : Co w0 W R T A s m V kd tn VA ats x y) (F : Fix base R T s k V L w0) (n : Int) (hm : m ≤ s.size) (hi : Lib.indexByte (s.data.toList.drop m) (bOf n) < 0) :
    Calls Tryd.prog 117 #[.pointer (some ⟨R, 0, none⟩), .int .u8 n] W fun e w' => ∃ z : ByteArray, e = .returned (.tuple #[.string z, .bool false]) ∧ Hid (z.data.toList = []) ∧ Co w0 w' R T A s m V kd tn VA ats x y :=
  (Go.Proofs.YtihgmgpcdodknaaDoor.quoted_no base R s m V L n W F.hs hm hi (C.rd F)).mono fun e w' h => ⟨⟨#[]⟩, h.1, hid rfl, C.fr_ h.2.2 h.2.1.2.1⟩
theorem Co.quoted_yes (C : Co w0 W R T A s m V kd tn VA ats x y) (F : Fix base R T s k V L w0) (n : Int) (i : Nat) (hm : m ≤ s.size) (hi : Lib.indexByte (s.data.toList.drop m) (bOf n) = (i : Int)) :
    Calls Tryd.prog 117 #[.pointer (some ⟨R, 0, none⟩), .int .u8 n] W fun e w' => ∃ z : ByteArray, e = .returned (.tuple #[.string z, .bool true]) ∧ Hid (z.data.toList = decL ((s.data.toList.drop m).take i)) ∧ Co w0 w' R T A s (m + i + 1) V kd tn VA ats x y :=
  (Go.Proofs.YtihgmgpcdodknaaDoor.quoted_yes base R s m V L n i W F.hs hm hi (C.rd F)).mono fun e w' ⟨z, h1, h2, h3, h4⟩ => ⟨z, h1, h2, C.fr_ h4 h3.2.1⟩
theorem Co.bare_ (C : Co w0 W R T A s m V kd tn VA ats x y) (F : Fix base R T s k V L w0) (hm : m ≤ s.size) :
    Calls Tryd.prog 116 #[.pointer (some ⟨R, 0, none⟩)] W fun e w' => ∃ (z : ByteArray) (m' : Nat), e = .returned (.tuple #[.string z, .bool (decide (m' < s.size))]) ∧ m ≤ m' ∧ m' ≤ s.size ∧ Hid (s.data.toList.drop m' = (s.data.toList.drop m).dropWhile bareC) ∧ Hid (z.data.toList = decL ((s.data.toList.drop m).takeWhile bareC)) ∧ Co w0 w' R T A s m' V kd tn VA ats x y :=
  (bare_any base R s m V L W F.hs hm (C.rd F)).mono fun e w' ⟨z, m', h1, h2, h3, h4, h5, h6, h7⟩ => ⟨z, m', h1, h2, h3, h4, h5, C.fr_ h7 h6.2.1⟩
end

set_option maxRecDepth 100000 in
set_option maxHeartbeats 12800000 in
theorem pass4 (base R T A : Nat) (s : ByteArray) (k : Nat) (V : Value) (L : List Tk) (kd : Int) (tn : ByteArray) (w0 : World) (Rz : Option (List Att × Bool × List UInt8)) (F : Fix base R T s k V L w0) (N : Nat) (Q : Exit → Act → World → Prop)
    (hQ : jumps (fun l' a' w' => JA w0 R T A s V kd tn Rz l' a' w' ∧ muA R s l' w' < N) (bodyPost Tryd.prog Tryd.f103 (AtPost base R T s V L kd tn w0 Rz)) = Q)
    (a : Act) (ha : ∃ u, a = frA R T A u) (W : World) (m : Nat) (VA : Value) (ats : List Att) (x y : List UInt8) (C : Co w0 W R T A s m V kd tn VA ats x y) (hm : m ≤ s.size) (hl : AtL s Rz m ats x y 4) (hN : 4 * (s.size - m) + 2 ≤ N) :
    Code.wp Tryd.prog (codeL Tryd.f103 4) Q a W := by
  obtain ⟨u, rfl⟩ := ha
  unfold frA
  simp only [codeL, inScp, aftLb, codeA, Tryd.f103, findLabel, Nat.reduceBEq, Bool.false_eq_true, ↓reduceIte]
  subst hQ
  obtain ⟨hy, has, hz⟩ := hl
  subst hy
  have hs0 := F.hs
  by_cases hge : s.size ≤ m
  · obtain rfl : m = s.size := by omega
    have Hnx := hid (C.next_none F)
    have Hz := hid hz
    have HF := hid F
    clear C F hz
    go_wp2_with (go_at_call 115; refine Hnx.out.mono ?_; rintro e1 w1 ⟨rfl, C1⟩)
    go_ret
    exact C1.fail HF.out (Nat.le_refl _) (by rw [← Hz.out, List.drop_of_length_le (by rw [len_data]; exact Nat.le_refl _), at_nil])
  have hlt : m < s.size := by omega
  obtain ⟨n, hn, hn0, hn1, hbn⟩ := byteOf s m hlt
  have Hd := hid (dropAt s m hlt)
  rw [← hbn] at Hd
  rw [Hd.out] at hz
  have Hz := hid hz
  have Hbn := hid hbn
  have Hnx := hid (C.next_some F hlt)
  rw [hn] at Hnx
  have Hbl := hid (fun W => (blank_any n hn0 hn1 W).mono fun e w' h => (⟨h.1, h.2.symm⟩ : e = _ ∧ w' = W))
  have HF := hid F
  have HC := hid C
  clear hz hn hbn C F
  by_cases hb : isBlank (bOf n) = true
  · rw [hb] at Hbl
    go_wp2_with (first
      | (go_at_call 115; refine Hnx.out.mono ?_; rintro e1 w1 ⟨rfl, C1⟩)
      | (go_at_call 101; refine (Hbl.out _).mono ?_; rintro e2 w1 ⟨rfl, hw2⟩; obtain rfl := hw2))
    refine wp_goto ?_
    refine JA.of C1 ?_ (by omega) ?_ ?_
    · kernel_rfl
    · exact ⟨rfl, by omega, by rw [← Hz.out]; exact (at4_b x _ ats hb).symm⟩
    · simp only [wtL]; omega
  have hb' : isBlank (bOf n) = false := by simpa using hb
  clear hb
  rw [hb'] at Hbl
  by_cases h62 : n = 62
  · subst h62
    go_wp2_with (first
      | (go_at_call 115; refine Hnx.out.mono ?_; rintro e1 w1 ⟨rfl, C1⟩)
      | (go_at_call 101; refine (Hbl.out _).mono ?_; rintro e2 w1 ⟨rfl, hw2⟩; obtain rfl := hw2))
    refine wp_goto ?_
    refine JA.of C1 ?_ (by omega) ?_ ?_
    · kernel_rfl
    · exact ⟨rfl, by omega, by rw [← Hz.out, Nat.add_sub_cancel, Hd.out]; exact (at4_e x _ ats).symm⟩
    · simp only [wtL]; omega
  have h62b : (n == 62) = false := beq_eq_false_iff_ne.2 h62
  obtain ⟨nn, hn⟩ : ∃ nn, ats.length = nn := ⟨_, rfl⟩
  have hn4 : nn ≤ 65536 := by omega
  have Hn := hid hn
  obtain ⟨An, cn, rfl⟩ : ∃ Aa ca, VA = .slice Aa nn ca := by
    rcases HC.out.own.2 with ⟨rfl, h0⟩ | ⟨g, cap, cur, rfl, _⟩
    · exact ⟨none, 0, by rw [← hn, h0]⟩
    · exact ⟨_, _, by rw [← hn]⟩
  clear hn
  obtain ⟨i0, hi, hz0, hz1, hz2⟩ := info_parts info_at
  by_cases h34 : n = 34
  · subst h34
    by_cases hix : Lib.indexByte (s.data.toList.drop (m + 1)) (bOf 34) < 0
    · have Hix := hid hix
      have Hq := hid (fun W' (C' : Co w0 W' R T A s (m + 1) V kd tn (.slice An nn cn) ats x []) => C'.quoted_no HF.out 34 (by omega) Hix.out)
      clear hix
      go_wp2_with (first
        | (go_at_call 115; refine Hnx.out.mono ?_; rintro e1 w1 ⟨rfl, C1⟩; have HC1 := hid C1; have c1 := C1.c1; have f1 : w1.frozen? ⟨R, 1, none⟩ = false := C1.r.frozen 1; clear C1)
        | (go_at_call 101; refine (Hbl.out _).mono ?_; rintro e2 w1 ⟨rfl, hw2⟩; obtain rfl := hw2)
        | (go_at_call 117; refine (Hq.out _ HC1.out).mono ?_; rintro e2 w2 ⟨yv, rfl, hyv, C2⟩; have HC2 := hid C2; have b1 := C2.a1; have g1 : w2.frozen? ⟨A, 1, none⟩ = false := C2.a.frozen 1; clear C2)
        | (go_at_call 116; refine (Hba.out _ (HC1.out.posI m (i := (m : Int)) rfl)).mono ?_; rintro e2 w2 ⟨yv, mm, rfl, hm1, hm2, hm3, hyv, C2⟩; have HC2 := hid C2; have b1 := C2.a1; have g1 : w2.frozen? ⟨A, 1, none⟩ = false := C2.a.frozen 1; clear C2))
      have HC3 := hid (HC2.out.set1 (z := yv) [] (bs_of hyv.out))
      clear b1 g1 HC2 HC1 c1 f1
      obtain ⟨w3, hw3⟩ : ∃ w3, w2.setCell ⟨A, 1, none⟩ (.string yv) = w3 := ⟨_, rfl⟩
      rw [hw3] at HC3 ⊢
      clear hw3
      have C3 := HC3.out
      have hown : w3.ownsRow (A + 1) 95 2 (.slice An nn cn) nn (attCells ats) := by
        have h := C3.own
        unfold OwnA at h
        rw [Hn.out] at h
        exact h
      obtain ⟨bx, hbx⟩ : ∃ bx, bs x = bx := ⟨_, rfl⟩
      obtain ⟨by_, hby⟩ : ∃ by_, bs ([]) = by_ := ⟨_, rfl⟩
      have a0 := C3.a0
      have a1 := C3.a1
      have t3 := C3.t3
      have ft : w3.frozen? ⟨T, 3, none⟩ = false := C3.t.frozen 3
      have hlo := C3.lo
      have hneT := own_blk_ne C3.own C3.t (by decide)
      have hAlt : A < w3.heap.size := C3.a.lt
      have hTlt : T < w3.heap.size := C3.t.lt
      rw [hbx] at a0
      rw [hby] at a1
      have Hbx := hid hbx
      have Hby := hid hby
      clear C3 hbx hby
      have t3a : (w3.alloc (.cells #[.string bx, .string by_] 95)).cell? ⟨T, 3, none⟩ = some (.slice An nn cn) := (World.cell?_alloc_lt _ _ _ hTlt).trans t3
      refine wp_region_noPanic ?_
      go_region_law
        ((refine step_append_lies _ (by rfl) _ _ _ (by rfl) (A + 1) 95 i0 _ 2 32 Tryd.underlying51 hi hz0 hz1 hz2 rfl (by omega) (.slice An nn cn) nn (attCells ats) (by rfl) ((hown.alloc _).drew)
            ⟨w3.heap.size, 0, none⟩ 1 1 [.string bx, .string by_] (by rfl) (by rfl) (World.news_of_block (cs := #[.string bx, .string by_]) (t := 95) (fr := (0, 0)) (heap_alloc_new w3 _)) (by simp [Value.oneCell'])
            (by omega) (by unfold maxLen; omega) (by omega) (by simp; omega) (w3.heap.size + 1) (by simp) ?_; intro gg cap w4 hown3 hgrow hat hlt3
          have e0 : w4.cell? ⟨T, 3, none⟩ = some (.slice An nn cn) := ((hgrow.cell_far _ (by simp; omega) (Ne.symm hneT)).trans ((World.cell?_alloc_lt _ _ _ hTlt).trans t3))
          have e1 : w4.frozen? ⟨T, 3, none⟩ = false := (hgrow.frozen_far _ (by simp; omega) (Ne.symm hneT)).trans (((alloc_below _ _).frozen (p := ⟨T, 3, none⟩) hTlt).trans ft)))
      all_goals
        refine NoPanic.normal ?_
        have ho3 : OwnA w4 (A + 1) (.slice (some ⟨gg, 0, none⟩) (nn + 1) cap) (ats ++ [(x, [])]) := by
          unfold OwnA
          rw [attCells_snoc, List.length_append, Hn.out, Hbx.out, Hby.out]
          exact hown3
        have C4 := HC3.out.put3 (W1 := (w3.alloc (.cells #[.string bx, .string by_] 95)).drew) (alloc_below w3 _).drew hgrow ho3
        clear ho3 hown3 hgrow hat e0 e1 a0 a1 t3 t3a ft hlt3
        go_wp2
        go_ret
        exact C4.fail HF.out (by omega) (by rw [← Hz.out]; exact (at4_qn x _ ats (by decide) Hix.out).symm)
    · obtain ⟨i, hii⟩ : ∃ i : Nat, Lib.indexByte (s.data.toList.drop (m + 1)) (bOf 34) = (i : Int) := ⟨(Lib.indexByte (s.data.toList.drop (m + 1)) (bOf 34)).toNat, by omega⟩
      have Hix := hid hii
      have hil := idx_lt _ _ _ hii
      rw [List.length_drop, len_data] at hil
      have Hq := hid (fun W' (C' : Co w0 W' R T A s (m + 1) V kd tn (.slice An nn cn) ats x []) => C'.quoted_yes HF.out 34 i (by omega) Hix.out)
      clear hii hix
      go_wp2_with (first
        | (go_at_call 115; refine Hnx.out.mono ?_; rintro e1 w1 ⟨rfl, C1⟩; have HC1 := hid C1; have c1 := C1.c1; have f1 : w1.frozen? ⟨R, 1, none⟩ = false := C1.r.frozen 1; clear C1)
        | (go_at_call 101; refine (Hbl.out _).mono ?_; rintro e2 w1 ⟨rfl, hw2⟩; obtain rfl := hw2)
        | (go_at_call 117; refine (Hq.out _ HC1.out).mono ?_; rintro e2 w2 ⟨yv, rfl, hyv, C2⟩; have HC2 := hid C2; have b1 := C2.a1; have g1 : w2.frozen? ⟨A, 1, none⟩ = false := C2.a.frozen 1; clear C2)
        | (go_at_call 116; refine (Hba.out _ (HC1.out.posI m (i := (m : Int)) rfl)).mono ?_; rintro e2 w2 ⟨yv, mm, rfl, hm1, hm2, hm3, hyv, C2⟩; have HC2 := hid C2; have b1 := C2.a1; have g1 : w2.frozen? ⟨A, 1, none⟩ = false := C2.a.frozen 1; clear C2))
      have HC3 := hid (HC2.out.set1 (z := yv) (decL ((s.data.toList.drop (m + 1)).take i)) (bs_of hyv.out))
      clear b1 g1 HC2 HC1 c1 f1
      obtain ⟨w3, hw3⟩ : ∃ w3, w2.setCell ⟨A, 1, none⟩ (.string yv) = w3 := ⟨_, rfl⟩
      rw [hw3] at HC3 ⊢
      clear hw3
      have C3 := HC3.out
      have hown : w3.ownsRow (A + 1) 95 2 (.slice An nn cn) nn (attCells ats) := by
        have h := C3.own
        unfold OwnA at h
        rw [Hn.out] at h
        exact h
      obtain ⟨bx, hbx⟩ : ∃ bx, bs x = bx := ⟨_, rfl⟩
      obtain ⟨by_, hby⟩ : ∃ by_, bs ((decL ((s.data.toList.drop (m + 1)).take i))) = by_ := ⟨_, rfl⟩
      have a0 := C3.a0
      have a1 := C3.a1
      have t3 := C3.t3
      have ft : w3.frozen? ⟨T, 3, none⟩ = false := C3.t.frozen 3
      have hlo := C3.lo
      have hneT := own_blk_ne C3.own C3.t (by decide)
      have hAlt : A < w3.heap.size := C3.a.lt
      have hTlt : T < w3.heap.size := C3.t.lt
      rw [hbx] at a0
      rw [hby] at a1
      have Hbx := hid hbx
      have Hby := hid hby
      clear C3 hbx hby
      have t3a : (w3.alloc (.cells #[.string bx, .string by_] 95)).cell? ⟨T, 3, none⟩ = some (.slice An nn cn) := (World.cell?_alloc_lt _ _ _ hTlt).trans t3
      refine wp_region_noPanic ?_
      go_region_law
        ((refine step_append_lies _ (by rfl) _ _ _ (by rfl) (A + 1) 95 i0 _ 2 32 Tryd.underlying51 hi hz0 hz1 hz2 rfl (by omega) (.slice An nn cn) nn (attCells ats) (by rfl) ((hown.alloc _).drew)
            ⟨w3.heap.size, 0, none⟩ 1 1 [.string bx, .string by_] (by rfl) (by rfl) (World.news_of_block (cs := #[.string bx, .string by_]) (t := 95) (fr := (0, 0)) (heap_alloc_new w3 _)) (by simp [Value.oneCell'])
            (by omega) (by unfold maxLen; omega) (by omega) (by simp; omega) (w3.heap.size + 1) (by simp) ?_; intro gg cap w4 hown3 hgrow hat hlt3
          have e0 : w4.cell? ⟨T, 3, none⟩ = some (.slice An nn cn) := ((hgrow.cell_far _ (by simp; omega) (Ne.symm hneT)).trans ((World.cell?_alloc_lt _ _ _ hTlt).trans t3))
          have e1 : w4.frozen? ⟨T, 3, none⟩ = false := (hgrow.frozen_far _ (by simp; omega) (Ne.symm hneT)).trans (((alloc_below _ _).frozen (p := ⟨T, 3, none⟩) hTlt).trans ft)))
      all_goals
        refine NoPanic.normal ?_
        have ho3 : OwnA w4 (A + 1) (.slice (some ⟨gg, 0, none⟩) (nn + 1) cap) (ats ++ [(x, (decL ((s.data.toList.drop (m + 1)).take i)))]) := by
          unfold OwnA
          rw [attCells_snoc, List.length_append, Hn.out, Hbx.out, Hby.out]
          exact hown3
        have C4 := HC3.out.put3 (W1 := (w3.alloc (.cells #[.string bx, .string by_] 95)).drew) (alloc_below w3 _).drew hgrow ho3
        clear ho3 hown3 hgrow hat e0 e1 a0 a1 t3 t3a ft hlt3
        go_wp2
        refine wp_goto ?_
        refine JA.of C4 ?_ (by omega) ?_ ?_
        · kernel_rfl
        · exact ⟨by rw [List.length_append]; simp; omega, by rw [← Hz.out, at4_qy x _ ats i (by decide) Hix.out, List.drop_drop]; rfl⟩
        · simp only [wtL]; omega
  have h34b : (n == 34) = false := beq_eq_false_iff_ne.2 h34
  have h34c : (n != 34) = true := by rw [bne, h34b]; rfl
  by_cases h39 : n = 39
  · subst h39
    by_cases hix : Lib.indexByte (s.data.toList.drop (m + 1)) (bOf 39) < 0
    · have Hix := hid hix
      have Hq := hid (fun W' (C' : Co w0 W' R T A s (m + 1) V kd tn (.slice An nn cn) ats x []) => C'.quoted_no HF.out 39 (by omega) Hix.out)
      clear hix
      go_wp2_with (first
        | (go_at_call 115; refine Hnx.out.mono ?_; rintro e1 w1 ⟨rfl, C1⟩; have HC1 := hid C1; have c1 := C1.c1; have f1 : w1.frozen? ⟨R, 1, none⟩ = false := C1.r.frozen 1; clear C1)
        | (go_at_call 101; refine (Hbl.out _).mono ?_; rintro e2 w1 ⟨rfl, hw2⟩; obtain rfl := hw2)
        | (go_at_call 117; refine (Hq.out _ HC1.out).mono ?_; rintro e2 w2 ⟨yv, rfl, hyv, C2⟩; have HC2 := hid C2; have b1 := C2.a1; have g1 : w2.frozen? ⟨A, 1, none⟩ = false := C2.a.frozen 1; clear C2)
        | (go_at_call 116; refine (Hba.out _ (HC1.out.posI m (i := (m : Int)) rfl)).mono ?_; rintro e2 w2 ⟨yv, mm, rfl, hm1, hm2, hm3, hyv, C2⟩; have HC2 := hid C2; have b1 := C2.a1; have g1 : w2.frozen? ⟨A, 1, none⟩ = false := C2.a.frozen 1; clear C2))
      have HC3 := hid (HC2.out.set1 (z := yv) [] (bs_of hyv.out))
      clear b1 g1 HC2 HC1 c1 f1
      obtain ⟨w3, hw3⟩ : ∃ w3, w2.setCell ⟨A, 1, none⟩ (.string yv) = w3 := ⟨_, rfl⟩
      rw [hw3] at HC3 ⊢
      clear hw3
      have C3 := HC3.out
      have hown : w3.ownsRow (A + 1) 95 2 (.slice An nn cn) nn (attCells ats) := by
        have h := C3.own
        unfold OwnA at h
        rw [Hn.out] at h
        exact h
      obtain ⟨bx, hbx⟩ : ∃ bx, bs x = bx := ⟨_, rfl⟩
      obtain ⟨by_, hby⟩ : ∃ by_, bs ([]) = by_ := ⟨_, rfl⟩
      have a0 := C3.a0
      have a1 := C3.a1
      have t3 := C3.t3
      have ft : w3.frozen? ⟨T, 3, none⟩ = false := C3.t.frozen 3
      have hlo := C3.lo
      have hneT := own_blk_ne C3.own C3.t (by decide)
      have hAlt : A < w3.heap.size := C3.a.lt
      have hTlt : T < w3.heap.size := C3.t.lt
      rw [hbx] at a0
      rw [hby] at a1
      have Hbx := hid hbx
      have Hby := hid hby
      clear C3 hbx hby
      have t3a : (w3.alloc (.cells #[.string bx, .string by_] 95)).cell? ⟨T, 3, none⟩ = some (.slice An nn cn) := (World.cell?_alloc_lt _ _ _ hTlt).trans t3
      refine wp_region_noPanic ?_
      go_region_law
        ((refine step_append_lies _ (by rfl) _ _ _ (by rfl) (A + 1) 95 i0 _ 2 32 Tryd.underlying51 hi hz0 hz1 hz2 rfl (by omega) (.slice An nn cn) nn (attCells ats) (by rfl) ((hown.alloc _).drew)
            ⟨w3.heap.size, 0, none⟩ 1 1 [.string bx, .string by_] (by rfl) (by rfl) (World.news_of_block (cs := #[.string bx, .string by_]) (t := 95) (fr := (0, 0)) (heap_alloc_new w3 _)) (by simp [Value.oneCell'])
            (by omega) (by unfold maxLen; omega) (by omega) (by simp; omega) (w3.heap.size + 1) (by simp) ?_; intro gg cap w4 hown3 hgrow hat hlt3
          have e0 : w4.cell? ⟨T, 3, none⟩ = some (.slice An nn cn) := ((hgrow.cell_far _ (by simp; omega) (Ne.symm hneT)).trans ((World.cell?_alloc_lt _ _ _ hTlt).trans t3))
          have e1 : w4.frozen? ⟨T, 3, none⟩ = false := (hgrow.frozen_far _ (by simp; omega) (Ne.symm hneT)).trans (((alloc_below _ _).frozen (p := ⟨T, 3, none⟩) hTlt).trans ft)))
      all_goals
        refine NoPanic.normal ?_
        have ho3 : OwnA w4 (A + 1) (.slice (some ⟨gg, 0, none⟩) (nn + 1) cap) (ats ++ [(x, [])]) := by
          unfold OwnA
          rw [attCells_snoc, List.length_append, Hn.out, Hbx.out, Hby.out]
          exact hown3
        have C4 := HC3.out.put3 (W1 := (w3.alloc (.cells #[.string bx, .string by_] 95)).drew) (alloc_below w3 _).drew hgrow ho3
        clear ho3 hown3 hgrow hat e0 e1 a0 a1 t3 t3a ft hlt3
        go_wp2
        go_ret
        exact C4.fail HF.out (by omega) (by rw [← Hz.out]; exact (at4_qn x _ ats (by decide) Hix.out).symm)
    · obtain ⟨i, hii⟩ : ∃ i : Nat, Lib.indexByte (s.data.toList.drop (m + 1)) (bOf 39) = (i : Int) := ⟨(Lib.indexByte (s.data.toList.drop (m + 1)) (bOf 39)).toNat, by omega⟩
      have Hix := hid hii
      have hil := idx_lt _ _ _ hii
      rw [List.length_drop, len_data] at hil
      have Hq := hid (fun W' (C' : Co w0 W' R T A s (m + 1) V kd tn (.slice An nn cn) ats x []) => C'.quoted_yes HF.out 39 i (by omega) Hix.out)
      clear hii hix
      go_wp2_with (first
        | (go_at_call 115; refine Hnx.out.mono ?_; rintro e1 w1 ⟨rfl, C1⟩; have HC1 := hid C1; have c1 := C1.c1; have f1 : w1.frozen? ⟨R, 1, none⟩ = false := C1.r.frozen 1; clear C1)
        | (go_at_call 101; refine (Hbl.out _).mono ?_; rintro e2 w1 ⟨rfl, hw2⟩; obtain rfl := hw2)
        | (go_at_call 117; refine (Hq.out _ HC1.out).mono ?_; rintro e2 w2 ⟨yv, rfl, hyv, C2⟩; have HC2 := hid C2; have b1 := C2.a1; have g1 : w2.frozen? ⟨A, 1, none⟩ = false := C2.a.frozen 1; clear C2)
        | (go_at_call 116; refine (Hba.out _ (HC1.out.posI m (i := (m : Int)) rfl)).mono ?_; rintro e2 w2 ⟨yv, mm, rfl, hm1, hm2, hm3, hyv, C2⟩; have HC2 := hid C2; have b1 := C2.a1; have g1 : w2.frozen? ⟨A, 1, none⟩ = false := C2.a.frozen 1; clear C2))
      have HC3 := hid (HC2.out.set1 (z := yv) (decL ((s.data.toList.drop (m + 1)).take i)) (bs_of hyv.out))
      clear b1 g1 HC2 HC1 c1 f1
      obtain ⟨w3, hw3⟩ : ∃ w3, w2.setCell ⟨A, 1, none⟩ (.string yv) = w3 := ⟨_, rfl⟩
      rw [hw3] at HC3 ⊢
      clear hw3
      have C3 := HC3.out
      have hown : w3.ownsRow (A + 1) 95 2 (.slice An nn cn) nn (attCells ats) := by
        have h := C3.own
        unfold OwnA at h
        rw [Hn.out] at h
        exact h
      obtain ⟨bx, hbx⟩ : ∃ bx, bs x = bx := ⟨_, rfl⟩
      obtain ⟨by_, hby⟩ : ∃ by_, bs ((decL ((s.data.toList.drop (m + 1)).take i))) = by_ := ⟨_, rfl⟩
      have a0 := C3.a0
      have a1 := C3.a1
      have t3 := C3.t3
      have ft : w3.frozen? ⟨T, 3, none⟩ = false := C3.t.frozen 3
      have hlo := C3.lo
      have hneT := own_blk_ne C3.own C3.t (by decide)
      have hAlt : A < w3.heap.size := C3.a.lt
      have hTlt : T < w3.heap.size := C3.t.lt
      rw [hbx] at a0
      rw [hby] at a1
      have Hbx := hid hbx
      have Hby := hid hby
      clear C3 hbx hby
      have t3a : (w3.alloc (.cells #[.string bx, .string by_] 95)).cell? ⟨T, 3, none⟩ = some (.slice An nn cn) := (World.cell?_alloc_lt _ _ _ hTlt).trans t3
      refine wp_region_noPanic ?_
      go_region_law
        ((refine step_append_lies _ (by rfl) _ _ _ (by rfl) (A + 1) 95 i0 _ 2 32 Tryd.underlying51 hi hz0 hz1 hz2 rfl (by omega) (.slice An nn cn) nn (attCells ats) (by rfl) ((hown.alloc _).drew)
            ⟨w3.heap.size, 0, none⟩ 1 1 [.string bx, .string by_] (by rfl) (by rfl) (World.news_of_block (cs := #[.string bx, .string by_]) (t := 95) (fr := (0, 0)) (heap_alloc_new w3 _)) (by simp [Value.oneCell'])
            (by omega) (by unfold maxLen; omega) (by omega) (by simp; omega) (w3.heap.size + 1) (by simp) ?_; intro gg cap w4 hown3 hgrow hat hlt3
          have e0 : w4.cell? ⟨T, 3, none⟩ = some (.slice An nn cn) := ((hgrow.cell_far _ (by simp; omega) (Ne.symm hneT)).trans ((World.cell?_alloc_lt _ _ _ hTlt).trans t3))
          have e1 : w4.frozen? ⟨T, 3, none⟩ = false := (hgrow.frozen_far _ (by simp; omega) (Ne.symm hneT)).trans (((alloc_below _ _).frozen (p := ⟨T, 3, none⟩) hTlt).trans ft)))
      all_goals
        refine NoPanic.normal ?_
        have ho3 : OwnA w4 (A + 1) (.slice (some ⟨gg, 0, none⟩) (nn + 1) cap) (ats ++ [(x, (decL ((s.data.toList.drop (m + 1)).take i)))]) := by
          unfold OwnA
          rw [attCells_snoc, List.length_append, Hn.out, Hbx.out, Hby.out]
          exact hown3
        have C4 := HC3.out.put3 (W1 := (w3.alloc (.cells #[.string bx, .string by_] 95)).drew) (alloc_below w3 _).drew hgrow ho3
        clear ho3 hown3 hgrow hat e0 e1 a0 a1 t3 t3a ft hlt3
        go_wp2
        refine wp_goto ?_
        refine JA.of C4 ?_ (by omega) ?_ ?_
        · kernel_rfl
        · exact ⟨by rw [List.length_append]; simp; omega, by rw [← Hz.out, at4_qy x _ ats i (by decide) Hix.out, List.drop_drop]; rfl⟩
        · simp only [wtL]; omega
  have h39b : (n == 39) = false := beq_eq_false_iff_ne.2 h39
  have h39c : (n != 39) = true := by rw [bne, h39b]; rfl
  have Hba := hid (fun W' (C' : Co w0 W' R T A s m V kd tn (.slice An nn cn) ats x []) => C'.bare_ HF.out (by omega))
  rw [Hd.out] at Hba
  have hB := hid (bOf_no n hn0 hn1 62 62 rfl h62)
  have hB1 := hid (bOf_no n hn0 hn1 34 34 rfl h34)
  have hB2 := hid (bOf_no n hn0 hn1 39 39 rfl h39)
  go_wp2_with (first
    | (go_at_call 115; refine Hnx.out.mono ?_; rintro e1 w1 ⟨rfl, C1⟩; have HC1 := hid C1; have c1 := C1.c1; have f1 : w1.frozen? ⟨R, 1, none⟩ = false := C1.r.frozen 1; clear C1)
    | (go_at_call 101; refine (Hbl.out _).mono ?_; rintro e2 w1 ⟨rfl, hw2⟩; obtain rfl := hw2)
    | (go_at_call 117; refine (Hq.out _ HC1.out).mono ?_; rintro e2 w2 ⟨yv, rfl, hyv, C2⟩; have HC2 := hid C2; have b1 := C2.a1; have g1 : w2.frozen? ⟨A, 1, none⟩ = false := C2.a.frozen 1; clear C2)
    | (go_at_call 116; refine (Hba.out _ (HC1.out.posI m (i := (m : Int)) rfl)).mono ?_; rintro e2 w2 ⟨yv, mm, rfl, hm1, hm2, hm3, hyv, C2⟩; have HC2 := hid C2; have b1 := C2.a1; have g1 : w2.frozen? ⟨A, 1, none⟩ = false := C2.a.frozen 1; clear C2))
  by_cases hmz : mm < s.size
  · have hdd : decide (mm < s.size) = true := decide_eq_true hmz
    rw [hdd]
    clear hdd
    have HC3 := hid (HC2.out.set1 (z := yv) (decL ((bOf n :: s.data.toList.drop (m + 1)).takeWhile bareC)) (bs_of hyv.out))
    clear b1 g1 HC2 HC1 c1 f1
    obtain ⟨w3, hw3⟩ : ∃ w3, w2.setCell ⟨A, 1, none⟩ (.string yv) = w3 := ⟨_, rfl⟩
    rw [hw3] at HC3 ⊢
    clear hw3
    have C3 := HC3.out
    have hown : w3.ownsRow (A + 1) 95 2 (.slice An nn cn) nn (attCells ats) := by
      have h := C3.own
      unfold OwnA at h
      rw [Hn.out] at h
      exact h
    obtain ⟨bx, hbx⟩ : ∃ bx, bs x = bx := ⟨_, rfl⟩
    obtain ⟨by_, hby⟩ : ∃ by_, bs ((decL ((bOf n :: s.data.toList.drop (m + 1)).takeWhile bareC))) = by_ := ⟨_, rfl⟩
    have a0 := C3.a0
    have a1 := C3.a1
    have t3 := C3.t3
    have ft : w3.frozen? ⟨T, 3, none⟩ = false := C3.t.frozen 3
    have hlo := C3.lo
    have hneT := own_blk_ne C3.own C3.t (by decide)
    have hAlt : A < w3.heap.size := C3.a.lt
    have hTlt : T < w3.heap.size := C3.t.lt
    rw [hbx] at a0
    rw [hby] at a1
    have Hbx := hid hbx
    have Hby := hid hby
    clear C3 hbx hby
    have t3a : (w3.alloc (.cells #[.string bx, .string by_] 95)).cell? ⟨T, 3, none⟩ = some (.slice An nn cn) := (World.cell?_alloc_lt _ _ _ hTlt).trans t3
    refine wp_region_noPanic ?_
    go_region_law
      ((refine step_append_lies _ (by rfl) _ _ _ (by rfl) (A + 1) 95 i0 _ 2 32 Tryd.underlying51 hi hz0 hz1 hz2 rfl (by omega) (.slice An nn cn) nn (attCells ats) (by rfl) ((hown.alloc _).drew)
          ⟨w3.heap.size, 0, none⟩ 1 1 [.string bx, .string by_] (by rfl) (by rfl) (World.news_of_block (cs := #[.string bx, .string by_]) (t := 95) (fr := (0, 0)) (heap_alloc_new w3 _)) (by simp [Value.oneCell'])
          (by omega) (by unfold maxLen; omega) (by omega) (by simp; omega) (w3.heap.size + 1) (by simp) ?_; intro gg cap w4 hown3 hgrow hat hlt3
        have e0 : w4.cell? ⟨T, 3, none⟩ = some (.slice An nn cn) := ((hgrow.cell_far _ (by simp; omega) (Ne.symm hneT)).trans ((World.cell?_alloc_lt _ _ _ hTlt).trans t3))
        have e1 : w4.frozen? ⟨T, 3, none⟩ = false := (hgrow.frozen_far _ (by simp; omega) (Ne.symm hneT)).trans (((alloc_below _ _).frozen (p := ⟨T, 3, none⟩) hTlt).trans ft)))
    all_goals
      refine NoPanic.normal ?_
      have ho3 : OwnA w4 (A + 1) (.slice (some ⟨gg, 0, none⟩) (nn + 1) cap) (ats ++ [(x, (decL ((bOf n :: s.data.toList.drop (m + 1)).takeWhile bareC)))]) := by
        unfold OwnA
        rw [attCells_snoc, List.length_append, Hn.out, Hbx.out, Hby.out]
        exact hown3
      have C4 := HC3.out.put3 (W1 := (w3.alloc (.cells #[.string bx, .string by_] 95)).drew) (alloc_below w3 _).drew hgrow ho3
      clear ho3 hown3 hgrow hat e0 e1 a0 a1 t3 t3a ft hlt3
      go_wp2
      refine wp_goto ?_
      refine JA.of C4 ?_ (by omega) ?_ ?_
      · kernel_rfl
      · exact ⟨by rw [List.length_append]; simp; omega, by rw [← Hz.out, hm3.out]; exact (at4_oy x _ ats hb' hB.out hB1.out hB2.out (by rw [← hm3.out]; exact fun e => by have := congrArg List.length e; rw [List.length_drop, len_data] at this; simp at this; omega)).symm⟩
      · simp only [wtL]; omega
  · have hdd : decide (mm < s.size) = false := decide_eq_false hmz
    rw [hdd]
    clear hdd
    have HC3 := hid (HC2.out.set1 (z := yv) (decL ((bOf n :: s.data.toList.drop (m + 1)).takeWhile bareC)) (bs_of hyv.out))
    clear b1 g1 HC2 HC1 c1 f1
    obtain ⟨w3, hw3⟩ : ∃ w3, w2.setCell ⟨A, 1, none⟩ (.string yv) = w3 := ⟨_, rfl⟩
    rw [hw3] at HC3 ⊢
    clear hw3
    have C3 := HC3.out
    have hown : w3.ownsRow (A + 1) 95 2 (.slice An nn cn) nn (attCells ats) := by
      have h := C3.own
      unfold OwnA at h
      rw [Hn.out] at h
      exact h
    obtain ⟨bx, hbx⟩ : ∃ bx, bs x = bx := ⟨_, rfl⟩
    obtain ⟨by_, hby⟩ : ∃ by_, bs ((decL ((bOf n :: s.data.toList.drop (m + 1)).takeWhile bareC))) = by_ := ⟨_, rfl⟩
    have a0 := C3.a0
    have a1 := C3.a1
    have t3 := C3.t3
    have ft : w3.frozen? ⟨T, 3, none⟩ = false := C3.t.frozen 3
    have hlo := C3.lo
    have hneT := own_blk_ne C3.own C3.t (by decide)
    have hAlt : A < w3.heap.size := C3.a.lt
    have hTlt : T < w3.heap.size := C3.t.lt
    rw [hbx] at a0
    rw [hby] at a1
    have Hbx := hid hbx
    have Hby := hid hby
    clear C3 hbx hby
    have t3a : (w3.alloc (.cells #[.string bx, .string by_] 95)).cell? ⟨T, 3, none⟩ = some (.slice An nn cn) := (World.cell?_alloc_lt _ _ _ hTlt).trans t3
    refine wp_region_noPanic ?_
    go_region_law
      ((refine step_append_lies _ (by rfl) _ _ _ (by rfl) (A + 1) 95 i0 _ 2 32 Tryd.underlying51 hi hz0 hz1 hz2 rfl (by omega) (.slice An nn cn) nn (attCells ats) (by rfl) ((hown.alloc _).drew)
          ⟨w3.heap.size, 0, none⟩ 1 1 [.string bx, .string by_] (by rfl) (by rfl) (World.news_of_block (cs := #[.string bx, .string by_]) (t := 95) (fr := (0, 0)) (heap_alloc_new w3 _)) (by simp [Value.oneCell'])
          (by omega) (by unfold maxLen; omega) (by omega) (by simp; omega) (w3.heap.size + 1) (by simp) ?_; intro gg cap w4 hown3 hgrow hat hlt3
        have e0 : w4.cell? ⟨T, 3, none⟩ = some (.slice An nn cn) := ((hgrow.cell_far _ (by simp; omega) (Ne.symm hneT)).trans ((World.cell?_alloc_lt _ _ _ hTlt).trans t3))
        have e1 : w4.frozen? ⟨T, 3, none⟩ = false := (hgrow.frozen_far _ (by simp; omega) (Ne.symm hneT)).trans (((alloc_below _ _).frozen (p := ⟨T, 3, none⟩) hTlt).trans ft)))
    all_goals
      refine NoPanic.normal ?_
      have ho3 : OwnA w4 (A + 1) (.slice (some ⟨gg, 0, none⟩) (nn + 1) cap) (ats ++ [(x, (decL ((bOf n :: s.data.toList.drop (m + 1)).takeWhile bareC)))]) := by
        unfold OwnA
        rw [attCells_snoc, List.length_append, Hn.out, Hbx.out, Hby.out]
        exact hown3
      have C4 := HC3.out.put3 (W1 := (w3.alloc (.cells #[.string bx, .string by_] 95)).drew) (alloc_below w3 _).drew hgrow ho3
      clear ho3 hown3 hgrow hat e0 e1 a0 a1 t3 t3a ft hlt3
      go_wp2
      go_ret
      exact C4.fail HF.out (by omega) (by rw [← Hz.out]; exact (at4_on x _ ats hb' hB.out hB1.out hB2.out (by rw [← hm3.out]; exact List.drop_of_length_le (by rw [len_data]; omega))).symm)
end Go.Proofs.YtihgmgpcdodknaaDoor
