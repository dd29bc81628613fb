/- The reader's methods: bare, quoted. -/
import Derived.Test.YtihgmgpcdodknaaTok1
import Derived.Deep.LoopGhost
set_option linter.unusedVariables false
namespace Go.Proofs.Ytihgmgpcdodknaa
open Go.RowKit

theorem below_aft {B : Nat} {w0 W w' : World} (h1 : Below B w0 W) (hlt : B < W.heap.size) (h2 : Below W.heap.size W w') : Below B w0 w' := h1.trans (h2.mono (Nat.le_of_lt hlt))
theorem cell_aft {B j : Nat} {W w' : World} {v : Value} (h2 : Below W.heap.size W w') (hlt : B < W.heap.size) (hc : W.cell? ⟨B, j, none⟩ = some v) : w'.cell? ⟨B, j, none⟩ = some v := (h2.cell (p := ⟨B, j, none⟩) hlt).trans hc
theorem size_aft {B : Nat} {W w' : World} (h2 : Below W.heap.size W w') (hlt : B < W.heap.size) : B < w'.heap.size := Nat.lt_of_lt_of_le hlt h2.size
theorem tw_end (p : UInt8 → Bool) (l : List UInt8) (m : Nat) (h1 : (l.take m).all p = true) (h2 : ∀ c r, l.drop m = c :: r → p c = false) : l.takeWhile p = l.take m ∧ l.dropWhile p = l.drop m := by
  have key : ∀ (a b : List UInt8), a.all p = true → (∀ c r, b = c :: r → p c = false) → (a ++ b).takeWhile p = a ∧ (a ++ b).dropWhile p = b := by
    intro a
    induction a with
    | nil =>
      intro b _ hb
      cases b with
      | nil => simp
      | cons c r => have := hb c r rfl; simp [this]
    | cons c a ih =>
      intro b ha hb
      rw [List.all_cons, Bool.and_eq_true] at ha
      have := ih b ha.2 hb
      simp [ha.1, this.1, this.2]
  have := key (l.take m) (l.drop m) h1 h2
  rwa [List.take_append_drop] at this

set_option maxRecDepth 100000 in
set_option maxHeartbeats 1600000 in
theorem bare_any (base R : Nat) (s : ByteArray) (k : Nat) (V : Value) (L : List Tk) (w : World) (hs : s.size ≤ 65536) (hk : k ≤ s.size) (h : Rd w base R s k V L) :
    Calls Try.prog 91 #[.pointer (some ⟨R, 0, none⟩)] w fun e w' => ∃ (y : ByteArray) (m : Nat), e = .returned (.tuple #[.string y, .bool (decide (m < s.size))]) ∧ k ≤ m ∧ m ≤ s.size ∧ Hid (s.data.toList.drop m = (s.data.toList.drop k).dropWhile bareC) ∧ Hid (y.data.toList = decL ((s.data.toList.drop k).takeWhile bareC)) ∧ Rd w' base R s m V L ∧ Fr R none none w w' := by
  have H := hid h
  have c0 := h.c0
  have c1 := h.c1
  clear h
  have HR := hid (fun n => rd_drewN H.out n)
  go_enter Try.func91, Try.ntmps91
  go_wp2
  clear c0 c1
  go_loopg [] (s.size - k) (fun g wr => ∃ m : Nat, k ≤ m ∧ m ≤ s.size ∧ g = s.size - m ∧ Hid (((s.data.toList.drop k).take (m - k)).all bareC = true) ∧ Hid (Rd wr base R s m V L) ∧ Hid (Fr R none none w wr))
  case atStart => exact ⟨k, Nat.le_refl _, hk, rfl, hid (by simp), H, hid (Fr.refl _ _ _)⟩
  case round =>
    obtain ⟨m, hkm, hms, rfl, hall, hRd, hF⟩ := hrel
    have c0 := hRd.out.c0
    have c1 := hRd.out.c1
    have f1 := hRd.out.fz 1
    by_cases hlt : m < s.size
    · obtain ⟨n, hn, hn0, hn1, hbn⟩ := byteOf s m hlt
      have Hbl := hid (fun W => (blank_any n hn0 hn1 W).mono fun e w' h => (⟨h.1, h.2.symm⟩ : e = _ ∧ w' = W))
      have hmi0 : (0 : Int) ≤ (m : Int) := by omega
      have hmi1 : (m : Int) < (s.size : Int) := by omega
      have hmi2 : decide ((m : Int) < (s.size : Int)) = true := decide_eq_true hmi1
      have hmi3 : decide (m < s.size) = true := decide_eq_true hlt
      by_cases hgo : isBlank (bOf n) = false ∧ n ≠ 62
      · obtain ⟨hb0, hn62⟩ := hgo
        have hnb : (n == 62) = false := beq_eq_false_iff_ne.2 hn62
        have hnm : ¬ n = 62 := hn62
        rw [hb0] at Hbl
        go_wp2_with (go_quiet ((go_at_call 72; exact Calls.quiet_of_same (Hbl.out _))))
        go_roundg (s.size - (m + 1))
        case measure => omega
        case rel =>
          refine ⟨m + 1, by omega, by omega, rfl, hid ?_, hid ((rd_drewN hRd.out _).atI (m + 1) (by omega)), hid (hF.out.trans (((Fr.refl _ _ _).drewN _).trans (Fr.setR 1 _)))⟩
          have e1 : m + 1 - k = (m - k) + 1 := by omega
          have hlen : m - k < (s.data.toList.drop k).length := by rw [List.length_drop, len_data]; omega
          rw [e1, List.take_succ_eq_append_getElem hlen, List.all_append, hall.out]
          have e2 : (s.data.toList.drop k)[m - k] = s[m] := by
            rw [List.getElem_drop]
            have e3 : k + (m - k) = m := by omega
            simp only [e3]
            exact data_get s m hlt _
          rw [e2, ← hbn]
          have : (bOf n != 62) = true := by
            rw [bne_iff_ne]
            intro e
            have := congrArg UInt8.toNat e
            have h2 := congrArg UInt8.toNat hbn
            rw [this] at h2
            apply hn62
            rw [← hn, ← h2]; rfl
          simp [bareC, hb0, this]
      · have Hend := hid (tw_end bareC (s.data.toList.drop k) (m - k) hall.out (fun c r hcr => by
          have e0 : (s.data.toList.drop k).drop (m - k) = s.data.toList.drop m := by rw [List.drop_drop]; congr 1; omega
          rw [e0, dropAt s m hlt, ← hbn] at hcr
          injection hcr with h1 h2
          subst h1
          unfold bareC
          by_cases hb : isBlank (bOf n) = true
          · rw [hb]; rfl
          · have hb' : isBlank (bOf n) = false := by simpa using hb
            have : n = 62 := Decidable.byContradiction fun h => hgo ⟨hb', h⟩
            subst this; rfl))
        have Hdec := hid (fun W => decode06_any (s.extract k m) W (by rw [ByteArray.size_extract]; omega))
        have hRlt := hRd.out.lt
        have hk0 : (0 : Int) ≤ (k : Int) := by omega
        have hkmi : (k : Int) ≤ (m : Int) := by omega
        have hmsi : (m : Int) ≤ (s.size : Int) := by omega
        by_cases hb : isBlank (bOf n) = true
        · rw [hb] at Hbl
          go_wp2_with (go_quiet ((go_at_call 72; exact Calls.quiet_of_same (Hbl.out _))))
          go_region_held3 (fun w' => w'.cell? ⟨R, 0, none⟩ = some (.string s) ∧ w'.cell? ⟨R, 1, none⟩ = some (.int .i64 (m : Int)) ∧ Below wr.heap.size wr w' ∧ R < w'.heap.size)
            (first
              | exact ⟨c0, c1, (below_dN _ _ _).drew, hRlt⟩
              | exact ⟨c0, c1, (Below.refl _ _).drew, hRlt⟩
              | (go_split_ands
                 exact ⟨cell_aft hbk (by assumption) (by assumption), cell_aft hbk (by assumption) (by assumption), (by assumption : Below wr.heap.size wr _).trans (hbk.mono (by assumption : Below wr.heap.size wr _).size), size_aft hbk (by assumption)⟩)
              | go_keep)
            (first
    | (go_at_call 58; refine (Hdec.out _).mono ?_; rintro e' w' ⟨y, rfl, hy, hbk⟩))
          all_goals
            go_split_ands
            have HB := hid (by assumption : Below wr.heap.size wr _)
            go_wp2
            go_ret2
            refine ⟨y, m, ?_, hkm, hms, hid ?_, hid ?_, hRd.out.keep HB.out, hF.out.trans (Fr.of_below HB.out)⟩
            · simp [*]
            · rw [Hend.out.2, List.drop_drop]; congr 1; omega
            · rw [hy.out, data_extract, Hend.out.1, List.drop_take]
        · have hb' : isBlank (bOf n) = false := by simpa using hb
          obtain rfl : n = 62 := Decidable.byContradiction fun h => hgo ⟨hb', h⟩
          rw [hb'] at Hbl
          go_wp2_with (go_quiet ((go_at_call 72; exact Calls.quiet_of_same (Hbl.out _))))
          go_region_held3 (fun w' => w'.cell? ⟨R, 0, none⟩ = some (.string s) ∧ w'.cell? ⟨R, 1, none⟩ = some (.int .i64 (m : Int)) ∧ Below wr.heap.size wr w' ∧ R < w'.heap.size)
            (first
              | exact ⟨c0, c1, (below_dN _ _ _).drew, hRlt⟩
              | exact ⟨c0, c1, (Below.refl _ _).drew, hRlt⟩
              | (go_split_ands
                 exact ⟨cell_aft hbk (by assumption) (by assumption), cell_aft hbk (by assumption) (by assumption), (by assumption : Below wr.heap.size wr _).trans (hbk.mono (by assumption : Below wr.heap.size wr _).size), size_aft hbk (by assumption)⟩)
              | go_keep)
            (first
    | (go_at_call 58; refine (Hdec.out _).mono ?_; rintro e' w' ⟨y, rfl, hy, hbk⟩))
          all_goals
            go_split_ands
            have HB := hid (by assumption : Below wr.heap.size wr _)
            go_wp2
            go_ret2
            refine ⟨y, m, ?_, hkm, hms, hid ?_, hid ?_, hRd.out.keep HB.out, hF.out.trans (Fr.of_below HB.out)⟩
            · simp [*]
            · rw [Hend.out.2, List.drop_drop]; congr 1; omega
            · rw [hy.out, data_extract, Hend.out.1, List.drop_take]
    · obtain rfl : m = s.size := by omega
      have Hend := hid (tw_end bareC (s.data.toList.drop k) (s.size - k) hall.out (fun c r hcr => by
        rw [List.drop_drop, List.drop_of_length_le (by rw [len_data]; omega)] at hcr
        cases hcr))
      have Hdec := hid (fun W => decode06_any (s.extract k s.size) W (by rw [ByteArray.size_extract]; omega))
      have hRlt := hRd.out.lt
      have hk0 : (0 : Int) ≤ (k : Int) := by omega
      have hkmi : (k : Int) ≤ (s.size : Int) := by omega
      go_wp2_with (go_quiet (fail))
      go_region_held3 (fun w' => w'.cell? ⟨R, 0, none⟩ = some (.string s) ∧ w'.cell? ⟨R, 1, none⟩ = some (.int .i64 (s.size : Int)) ∧ Below wr.heap.size wr w' ∧ R < w'.heap.size)
        (first
          | exact ⟨c0, c1, (below_dN _ _ _).drew, hRlt⟩
          | exact ⟨c0, c1, (Below.refl _ _).drew, hRlt⟩
          | (go_split_ands
             exact ⟨cell_aft hbk (by assumption) (by assumption), cell_aft hbk (by assumption) (by assumption), (by assumption : Below wr.heap.size wr _).trans (hbk.mono (by assumption : Below wr.heap.size wr _).size), size_aft hbk (by assumption)⟩)
          | go_keep)
        (first
    | (go_at_call 58; refine (Hdec.out _).mono ?_; rintro e' w' ⟨y, rfl, hy, hbk⟩))
      all_goals
        go_split_ands
        have HB := hid (by assumption : Below wr.heap.size wr _)
        go_wp2
        go_ret2
        refine ⟨y, s.size, ?_, hkm, hms, hid ?_, hid ?_, hRd.out.keep HB.out, hF.out.trans (Fr.of_below HB.out)⟩
        · simp [*]
        · rw [Hend.out.2, List.drop_drop]; congr 1; omega
        · rw [hy.out, data_extract, Hend.out.1, List.drop_take]
end Go.Proofs.Ytihgmgpcdodknaa
