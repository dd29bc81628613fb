/- The reader's markup. -/
import Derived.Test.YtihgmgpcdodknaaTok15
import Derived.Test.YtihgmgpcdodknaaTok17
set_option linter.unusedVariables false
namespace Go.Proofs.Ytihgmgpcdodknaa
open Go.RowKit

theorem maxAt_setR {w : World} {R : Nat} (h : MaxAt w) (hR : 0 ≠ R) (j : Nat) (v : Value) : MaxAt (w.setCell ⟨R, j, none⟩ v) := by
  obtain ⟨m, h⟩ := h
  exact ⟨m, (World.cell?_setCell_other w _ _ v (fun e => hR (by injection e with e; exact e.symm))).trans h⟩
set_option maxRecDepth 100000 in
set_option maxHeartbeats 1600000 in
theorem markup_any (base R : Nat) (s : ByteArray) (k : Nat) (V : Value) (L : List Tk) (w : World) (hs : s.size ≤ 65536) (hk : k < s.size) (hL : L.length ≤ 4096) (h : Rd w base R s k V L) (hM : MaxAt w) (hR0 : 0 ≠ R)
    (ho : opensB (s.data.toList.drop (k + 1)) = true) :
    Calls Try.prog 40 #[.pointer (some ⟨R, 0, none⟩)] w (RB base R s V w (markS (s.data.toList.drop k) L)) := by
  have H := hid h
  have HLn := hid hL
  have HM := hid hM
  have c0 := h.c0
  have c1 := h.c1
  have f1 := h.fz 1
  have hp1 : k + 1 < s.size := by
    rcases Nat.lt_or_ge (k + 1) s.size with h1 | h1
    · exact h1
    · rw [List.drop_of_length_le (by rw [len_data]; exact h1)] at ho; cases ho
  obtain ⟨n, hn, hn0, hn1, hbn⟩ := byteOf s (k + 1) hp1
  have Hd0 := hid (dropAt s k hk)
  have Hd1 := hid (dropAt s (k + 1) hp1)
  rw [← hbn] at Hd1
  have Ho : Hid (opensB (bOf n :: s.data.toList.drop (k + 2)) = true) := hid (by rw [← Hd1.out]; exact ho)
  obtain ⟨res, hres⟩ : ∃ res, markS (s.data.toList.drop k) L = res := ⟨_, rfl⟩
  rw [hres]
  rw [Hd0.out, Hd1.out, markS_cons] at hres
  have Hres := hid hres
  have HTs := hid (fun (W : World) (h1 : Rd W base R s (k + 1) V L) => tagS_any base R s (k + 1) V L W hs (by omega) HLn.out h1)
  have HTe := hid (fun (W : World) (hl : k + 2 ≤ s.size) (h1 : Rd W base R s (k + 2) V L) => tagE_any base R s (k + 2) V L W hs hl HLn.out h1)
  have HBo := hid (fun (W : World) (q : Nat) (hl : q ≤ s.size) (h1 : Rd W base R s q V L) => bogus_any base R s q V L W hs hl h1)
  have HBa := hid (fun (W : World) (hl : k + 2 ≤ s.size) (h1 : Rd W base R s (k + 2) V L) (h2 : MaxAt W) => bang_any base R s (k + 2) V L W hs hl HLn.out h1 h2)
  obtain ⟨p, hp⟩ : ∃ p, k + 1 = p := ⟨_, rfl⟩
  have hpi : (k : Int) + 1 = (p : Int) := by omega
  have hwp : IntKind.i64.wrap ((k : Int) + 1) = (p : Int) := by rw [hpi]; exact IntWalk.i64_in _ (by omega)
  have hq0 : (0 : Int) ≤ (p : Int) := by omega
  have hq1 : (p : Int) < (s.size : Int) := by omega
  have hq2 : p < s.size := by omega
  have hbp : (s[p]'hq2).toNat = n := by subst hp; exact hn
  obtain ⟨lt, hlt⟩ : ∃ lt, isLetter (bOf n) = lt := ⟨_, rfl⟩
  have HL1 := hid (fun W => letter_any n hn0 hn1 W)
  rw [hlt] at HL1
  have Hlt := hid hlt
  have HR1 := hid (H.out.atI (i := (p : Int)) (k + 1) (by omega))
  have HF1 := hid (Fr.setR (R := R) (a := none) (w := w) 1 (.int .i64 (p : Int)))
  have HM1 := hid (maxAt_setR HM.out hR0 1 (.int .i64 (p : Int)))
  have Hp := hid hp
  clear h hL hM hres ho hlt hbn hn hp hpi
  cases lt with
  | true =>
    have Hc : Hid (res = tagS (s.data.toList.drop (k + 1)) L) := hid (by rw [← Hres.out, if_pos Hlt.out, Hd1.out])
    go_enter Try.func40, Try.ntmps40
    go_wp2_with (first
      | (go_at_call 57; (with_reducible refine (HL1.out _).mono ?_); rintro e2 w2 ⟨rfl, hw2⟩; obtain rfl := hw2)
      | (go_quiet (fail)))
    refine (HTs.out _ ?_).mono ?_
    · exact rd_drewN HR1.out _
    intro e w4 hRB
    have hRB2 := RB.after (w := w) (V := V) ?fr hRB
    case fr => exact (HF1.out.drewN _).wk _
    clear hRB
    rw [← Hc.out] at hRB2
    cases res with
    | none =>
      obtain ⟨rfl, row, hfr⟩ := hRB2
      go_wp2
      exact ⟨rfl, rfl, row, hfr⟩
    | some q =>
      obtain ⟨b2, L2, r2⟩ := q
      obtain ⟨rfl, V2, k2, g1, g2, g3, g4⟩ := hRB2
      go_wp2
      go_ret
      exact ⟨rfl, V2, k2, g1, g2, g3, g4⟩
  | false =>
    have Hres2 := hid Hres.out
    rw [if_neg (by rw [Hlt.out]; decide)] at Hres2
    obtain ⟨q, hq⟩ : ∃ q, p + 1 = q := ⟨_, rfl⟩
    have Hq : Hid (q = k + 2) := hid (by have := Hp.out; omega)
    have hwq : IntKind.i64.wrap ((p : Int) + 1) = (q : Int) := by rw [show (p : Int) + 1 = (q : Int) from by omega]; exact IntWalk.i64_in _ (by omega)
    clear hq
    by_cases h33 : n = 33
    · subst h33
      obtain ⟨o, ho⟩ : ∃ o, bangS (s.data.toList.drop (k + 2)) L = o := ⟨_, rfl⟩
      have Hc : Hid (res = o.map fun p => (true, p.1, p.2)) := hid (by rw [← Hres2.out, ← ho]; rfl)
      rw [ho] at HBa
      clear ho
      go_enter Try.func40, Try.ntmps40
      go_wp2_with (first
        | (go_at_call 57; (with_reducible refine (HL1.out _).mono ?_); rintro e2 w2 ⟨rfl, hw2⟩; obtain rfl := hw2)
        | (go_quiet (fail)))
      refine (HBa.out _ (by omega) ?_ ?_).mono ?_
      · exact (rd_drewN HR1.out _).atI (k + 2) (by have := Hq.out; omega)
      · exact maxAt_setR (maxAt_drewN HM1.out _) hR0 1 _
      intro e w4 hBP
      cases o with
      | none =>
        obtain ⟨rfl, row, hfr⟩ := hBP
        go_wp2
        rw [Hc.out]
        exact ⟨rfl, rfl, row, ((((HF1.out.drewN _).trans (Fr.setR 1 _))).wk _).trans hfr⟩
      | some pr =>
        obtain ⟨L', r⟩ := pr
        obtain ⟨rfl, V', k', g1, g2, g3, g4⟩ := hBP
        go_wp2
        go_ret
        rw [Hc.out]
        exact ⟨rfl, V', k', g1, fun _ => g2, g3, ((((HF1.out.drewN _).trans (Fr.setR 1 _))).wk _).trans g4⟩
    · have h33b : (n == 33) = false := beq_eq_false_iff_ne.2 h33
      have e33 := bOf_no n hn0 hn1 33 33 rfl h33
      have Hres3 := hid Hres2.out
      rw [if_neg e33] at Hres3
      by_cases h63 : n = 63
      · subst h63
        have Hc : Hid (res = some (true, L, bogusS (s.data.toList.drop (k + 1)))) := hid (by rw [← Hres3.out, Hd1.out]; rfl)
        clear e33
        go_enter Try.func40, Try.ntmps40
        go_wp2_with (first
          | (go_at_call 57; (with_reducible refine (HL1.out _).mono ?_); rintro e2 w2 ⟨rfl, hw2⟩; obtain rfl := hw2)
          | (go_quiet (fail)))
        refine (HBo.out _ (k + 1) ?pl ?_).mono ?_
        case pl => omega
        · exact rd_drewN HR1.out _
        rintro e w4 ⟨rfl, k', hk', hr', hRd', hF'⟩
        go_wp2
        go_ret
        rw [Hc.out]
        exact ⟨rfl, V, k', hk', fun _ => hr', hRd', ((HF1.out.drewN _).trans hF').wk _⟩
      · have h63b : (n == 63) = false := beq_eq_false_iff_ne.2 h63
        have e63 := bOf_no n hn0 hn1 63 63 rfl h63
        have Hres4 := hid Hres3.out
        rw [if_neg e63] at Hres4
        have h47 : n = 47 := Decidable.byContradiction fun h => by
          have e47 := bOf_no n hn0 hn1 47 47 rfl h
          have := Ho.out
          rw [opensB_c _ _ e47, Hlt.out] at this
          simp [e33, e63] at this
        subst h47
        clear e33 e63
        have hq3 : k + 2 < s.size := by
          rcases Nat.lt_or_ge (k + 2) s.size with h1 | h1
          · exact h1
          · have := Ho.out
            rw [List.drop_of_length_le (by rw [len_data]; exact h1)] at this
            cases this
        obtain ⟨n2, hn', hn0', hn1', hbn'⟩ := byteOf s (k + 2) hq3
        have Hd2 := hid (dropAt s (k + 2) hq3)
        rw [← hbn'] at Hd2
        rw [Hd2.out] at Hres4
        obtain ⟨lt2, hlt2⟩ : ∃ lt, isLetter (bOf n2) = lt := ⟨_, rfl⟩
        have HL2 := hid (fun W => letter_any n2 hn0' hn1' W)
        rw [hlt2] at HL2
        have Hlt2 := hid hlt2
        have hq4 : (0 : Int) ≤ (q : Int) := by omega
        have Hq2 := Hq.out
        have hq5 : (q : Int) < (s.size : Int) := by omega
        have hq6 : q < s.size := by omega
        have hbq : (s[q]'hq6).toNat = n2 := by subst Hq2; exact hn'
        clear hn' hbn' hlt2 Hq2
        cases lt2 with
        | true =>
          have Hc : Hid (res = tagE (s.data.toList.drop (k + 2)) L) := hid (by rw [← Hres4.out, Hd2.out]; exact if_pos Hlt2.out)
          have HTe2 := hid (fun (W : World) (h1 : Rd W base R s (k + 2) V L) => HTe.out W (by omega) h1)
          go_enter Try.func40, Try.ntmps40
          go_wp2_with (first
            | (go_at_call 57; (with_reducible refine (HL1.out _).mono ?_); rintro e2 w2 ⟨rfl, hw2⟩; obtain rfl := hw2)
            | (go_at_call 57; (with_reducible refine (HL2.out _).mono ?_); rintro e2 w2 ⟨rfl, hw2⟩; obtain rfl := hw2)
            | (go_quiet (fail)))
          refine (HTe2.out _ ?_).mono ?_
          · exact rd_drewN ((rd_drewN HR1.out _).atI (k + 2) (by have := Hq.out; omega)) _
          intro e w4 hRB
          have hRB2 := RB.after (w := w) (V := V) ?fr hRB
          case fr => exact (((HF1.out.drewN _).trans (Fr.setR 1 _)).drewN _).wk _
          clear hRB
          rw [← Hc.out] at hRB2
          cases res with
          | none =>
            obtain ⟨rfl, row, hfr⟩ := hRB2
            go_wp2
            exact ⟨rfl, rfl, row, hfr⟩
          | some q =>
            obtain ⟨b2, L2, r2⟩ := q
            obtain ⟨rfl, V2, k2, g1, g2, g3, g4⟩ := hRB2
            go_wp2
            go_ret
            exact ⟨rfl, V2, k2, g1, g2, g3, g4⟩
        | false =>
          have Hres5 := hid (Hres4.out)
          have Hres6 : Hid ((if bOf n2 = 62 then some (true, L, s.data.toList.drop (k + 2 + 1)) else some (true, L, bogusS (bOf n2 :: s.data.toList.drop (k + 2 + 1)))) = res) := hid (by rw [← Hres5.out]; exact (if_neg (by rw [Hlt2.out]; decide)).symm)
          by_cases h62 : n2 = 62
          · subst h62
            have Hc : Hid (res = some (true, L, s.data.toList.drop (k + 2 + 1))) := hid (by rw [← Hres6.out]; rfl)
            obtain ⟨q3, hq7⟩ : ∃ q3, q + 1 = q3 := ⟨_, rfl⟩
            have Hq3 : Hid (q3 = k + 2 + 1) := hid (by have := Hq.out; omega)
            have hwq3 : IntKind.i64.wrap ((q : Int) + 1) = (q3 : Int) := by rw [show (q : Int) + 1 = (q3 : Int) from by omega]; exact IntWalk.i64_in _ (by omega)
            clear hq7
            go_enter Try.func40, Try.ntmps40
            go_wp2_with (first
              | (go_at_call 57; (with_reducible refine (HL1.out _).mono ?_); rintro e2 w2 ⟨rfl, hw2⟩; obtain rfl := hw2)
              | (go_at_call 57; (with_reducible refine (HL2.out _).mono ?_); rintro e2 w2 ⟨rfl, hw2⟩; obtain rfl := hw2)
              | (go_quiet (fail)))
            go_ret
            rw [Hc.out]
            exact ⟨rfl, V, k + 2 + 1, by omega, fun _ => rfl, (rd_drewN ((rd_drewN HR1.out _).atI (k + 2) (by have := Hq.out; omega)) _).atI (k + 2 + 1) (by have := Hq3.out; omega), ((((HF1.out.drewN _).trans (Fr.setR 1 _)).drewN _).trans (Fr.setR 1 _)).wk _⟩
          · have h62b : (n2 == 62) = false := beq_eq_false_iff_ne.2 h62
            have Hc : Hid (res = some (true, L, bogusS (s.data.toList.drop (k + 2)))) := hid (by rw [← Hres6.out, if_neg (bOf_no n2 hn0' hn1' 62 62 rfl h62), Hd2.out])
            go_enter Try.func40, Try.ntmps40
            go_wp2_with (first
              | (go_at_call 57; (with_reducible refine (HL1.out _).mono ?_); rintro e2 w2 ⟨rfl, hw2⟩; obtain rfl := hw2)
              | (go_at_call 57; (with_reducible refine (HL2.out _).mono ?_); rintro e2 w2 ⟨rfl, hw2⟩; obtain rfl := hw2)
              | (go_quiet (fail)))
            refine (HBo.out _ (k + 2) ?pl ?_).mono ?_
            case pl => omega
            · exact rd_drewN ((rd_drewN HR1.out _).atI (k + 2) (by have := Hq.out; omega)) _
            rintro e w4 ⟨rfl, k', hk', hr', hRd', hF'⟩
            go_wp2
            go_ret
            rw [Hc.out]
            exact ⟨rfl, V, k', hk', fun _ => hr', hRd', ((((HF1.out.drewN _).trans (Fr.setR 1 _)).drewN _).trans hF').wk _⟩
end Go.Proofs.Ytihgmgpcdodknaa
