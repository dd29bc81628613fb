/- The reader's tag, of a start tag. -/
import Derived.Test.YtihgmgpcdodknaaDoorTok14
import Derived.Deep.Cut
import Derived.Deep.CutBlock
set_option linter.unusedVariables false
namespace Go.Proofs.YtihgmgpcdodknaaDoor
open Go.RowKit

set_option maxRecDepth 100000 in
set_option maxHeartbeats 6400000 in
theorem tagS_any (base R : Nat) (s : ByteArray) (k : Nat) (V : Value) (L : List Tk) (w : World) (hs : s.size ≤ 65536) (hk : k ≤ s.size) (hL : L.length ≤ 4096) (h : Rd w base R s k V L) :
    Calls Tryd.prog 81 #[.pointer (some ⟨R, 0, none⟩), .int .i64 1] w (RB base R s V w (tagS (s.data.toList.drop k) L)) := by
  have H := hid h
  have HL := hid hL
  have c1 := h.c1
  obtain ⟨res, hres⟩ : ∃ res, tagS (s.data.toList.drop k) L = res := ⟨_, rfl⟩
  rw [hres]
  have Hres := hid hres
  clear h hL hres
  go_enter Tryd.func81, Tryd.ntmps81
  go_upto_block 0 with fail
  go_cut [] from 7 (fun wx => ∃ m : Nat, k ≤ m ∧ m ≤ s.size ∧ Hid (s.data.toList.drop m = (s.data.toList.drop k).dropWhile nameC) ∧ Hid (s.data.toList.drop k = (s.data.toList.drop k).takeWhile nameC ++ s.data.toList.drop m) ∧ Hid ((s.data.toList.drop k).takeWhile nameC = (s.data.toList.drop k).take (m - k)) ∧ Hid (Rd wx base R s m V L) ∧ Hid (Fr R none none w wx))
  case first =>
    go_wp2_with fail
    go_loopg [] (s.size - k) (fun g wr => ∃ m : Nat, k ≤ m ∧ m ≤ s.size ∧ g = s.size - m ∧ Hid (((s.data.toList.drop k).take (m - k)).all nameC = true) ∧ Hid (Rd wr base R s m V L) ∧ Hid (Fr R none none w wr))
    case atStart => exact ⟨k, Nat.le_refl _, hk, rfl, hid (by simp), H, hid (Fr.refl _ _ _)⟩
    case round =>
      obtain ⟨m, hkm, hms, rfl, hall, hRd, hF⟩ := hrel
      have c0 := hRd.out.c0
      have c1 := hRd.out.c1
      have f1 := hRd.out.fz 1
      by_cases hlt : m < s.size
      · obtain ⟨n, hn, hn0, hn1, hbn⟩ := byteOf s m hlt
        have Hbl := hid (fun W => (blank_any n hn0 hn1 W).mono fun e w' h => (⟨h.1, h.2.symm⟩ : e = _ ∧ w' = W))
        have hmi0 : (0 : Int) ≤ (m : Int) := by omega
        have hmi1 : (m : Int) < (s.size : Int) := by omega
        have hmi2 : decide ((m : Int) < (s.size : Int)) = true := decide_eq_true hmi1
        have hmi3 : decide (m < s.size) = true := decide_eq_true hlt
        by_cases hgo : isBlank (bOf n) = false ∧ n ≠ 47 ∧ n ≠ 62
        · obtain ⟨hb0, hn47, hn62⟩ := hgo
          have hnb : (n == 62) = false := beq_eq_false_iff_ne.2 hn62
          have hnm : ¬ n = 62 := hn62
          have hnb2 : (n == 47) = false := beq_eq_false_iff_ne.2 hn47
          have hnm2 : ¬ n = 47 := hn47
          have hnc : (n != 62) = true := by rw [bne, hnb]; rfl
          have hnc2 : (n != 47) = true := by rw [bne, hnb2]; rfl
          rw [hb0] at Hbl
          go_wp2_with (go_quiet ((go_at_call 101; exact Calls.quiet_of_same (Hbl.out _))))
          go_roundg (s.size - (m + 1))
          case measure => omega
          case rel =>
            refine ⟨m + 1, by omega, by omega, rfl, hid (all_next nameC s k m hkm hlt hall.out ?_), hid ((rd_drewN hRd.out _).atI (m + 1) (by omega)), hid (hF.out.trans (((Fr.refl _ _ _).drewN _).trans (Fr.setR 1 _)))⟩
            rw [← hbn]
            exact nameC_no n hn0 hn1 hb0 hn47 hn62
        · have hc : nameC (bOf n) = false := nameC_yes n hn0 hn1 (fun h1 h2 h3 => hgo ⟨h1, h2, h3⟩)
          have Hend := hid (loop_end nameC s k m hkm hall.out (fun c r hcr => by rw [dropAt s m hlt, ← hbn] at hcr; injection hcr with h1 h2; rw [← h1]; exact hc))
          by_cases hb : isBlank (bOf n) = true
          · rw [hb] at Hbl
            go_wp2_with (go_quiet ((go_at_call 101; exact Calls.quiet_of_same (Hbl.out _))))
            go_meet
            case rel => exact ⟨m, hkm, hms, hid Hend.out.1, hid Hend.out.2.1, hid Hend.out.2.2, hid (rd_drewN hRd.out _), hid (hF.out.trans ((Fr.refl _ _ _).drewN _))⟩
          · have hb' : isBlank (bOf n) = false := by simpa using hb
            rw [hb'] at Hbl
            by_cases h47 : n = 47
            · subst h47
              go_wp2_with (go_quiet ((go_at_call 101; exact Calls.quiet_of_same (Hbl.out _))))
              go_meet
              case rel => exact ⟨m, hkm, hms, hid Hend.out.1, hid Hend.out.2.1, hid Hend.out.2.2, hid (rd_drewN hRd.out _), hid (hF.out.trans ((Fr.refl _ _ _).drewN _))⟩
            · obtain rfl : n = 62 := Decidable.byContradiction fun h => hgo ⟨hb', h47, h⟩
              go_wp2_with (go_quiet ((go_at_call 101; exact Calls.quiet_of_same (Hbl.out _))))
              go_meet
              case rel => exact ⟨m, hkm, hms, hid Hend.out.1, hid Hend.out.2.1, hid Hend.out.2.2, hid (rd_drewN hRd.out _), hid (hF.out.trans ((Fr.refl _ _ _).drewN _))⟩
      · obtain rfl : m = s.size := by omega
        have Hend := hid (loop_end nameC s k s.size hkm hall.out (fun c r hcr => by rw [List.drop_of_length_le (by rw [len_data]; exact Nat.le_refl _)] at hcr; cases hcr))
        go_wp2_with (go_quiet (fail))
        go_meet
        case rel => exact ⟨s.size, hkm, hms, hid Hend.out.1, hid Hend.out.2.1, hid Hend.out.2.2, hid (rd_drewN hRd.out _), hid (hF.out.trans ((Fr.refl _ _ _).drewN _))⟩
  case rest =>
    obtain ⟨m, hkm, hms, hd, happ, htk, hRd, hF⟩ := hcut
    go_upto_region 4 with fail
    go_cut [6] from 7 (fun v6 wx => ∃ (T : Nat) (nm : ByteArray), v6 = .pointer (some ⟨T, 0, none⟩) ∧ Hid (nm.data.toList = low ((s.data.toList.drop k).takeWhile nameC)) ∧ Hid (TagMid w wx base R s m V L 1 T nm))
    case first =>
      have c0 := hRd.out.c0
      have c1 := hRd.out.c1
      have hRlt := hRd.out.lt
      have hk0 : (0 : Int) ≤ (k : Int) := by omega
      have hk1 : (k : Int) ≤ (m : Int) := by omega
      have hk2 : (m : Int) ≤ (s.size : Int) := by omega
      have Hsz := hid (fun a b => (by rw [ByteArray.size_extract]; omega : (s.extract a b).size ≤ 1099511627776))
      refine wp_region_noPanic ?_
      go_region_law ((go_simp; go_at_call 102; refine (lower_any _ _ (Hsz.out _ _)).mono ?_; rintro e' w' ⟨t, rfl, ht, hbk⟩; (try (have q := Blk.below (Blk.drew (Blk.new wc 53 #[.int .i64 0, .string ⟨#[]⟩, .string ⟨#[]⟩, .slice none 0 0, .bool false])) hbk (by simp); have q0 := (q.cell 0).trans rfl; have q1 := (q.cell 1).trans rfl; have q2 := (q.cell 2).trans rfl; have q3 := (q.cell 3).trans rfl; have q4 := (q.cell 4).trans rfl; have p0 := q.frozen 0; have p1 := q.frozen 1; have p2 := q.frozen 2; have p3 := q.frozen 3; have p4 := q.frozen 4)); dsimp only))
      all_goals
        refine NoPanic.normal ?_
        go_wp2_with fail
        go_meet
        case rel =>
          refine ⟨_, t, rfl, hid ?_, hid ?_⟩
          · rw [ht.out, data_extract, List.drop_take, htk.out]
          · first
              | (with_reducible exact tm_A hRd.out hF.out hbk)
              | (with_reducible exact tm_B hRd.out hF.out hbk)
    case rest =>
      obtain ⟨T, nm, rfl, hnm, hTM⟩ := hcut
      obtain ⟨hTw, hvT, hRd2, hTb, hF2⟩ := hTM.out
      have HTw := hid hTw
      have HvT := hid hvT
      have HRd2 := hid hRd2
      have HF2 := hid hF2
      have Hat := hid (attrs_any base R T s m V L 1 nm wc hs hms hRd2 hTb hvT)
      obtain ⟨Rz, hRz⟩ : ∃ Rz, atT .bef (s.data.toList.drop m) [] = Rz := ⟨_, rfl⟩
      rw [hRz] at Hat
      have HRz := hid hRz
      clear hTw hvT hRd2 hTb hF2 hRz hTM
      cases Rz with
      | none =>
        have Hsp : Hid (tagS (s.data.toList.drop k) L = some (false, L, [])) := hid (by unfold tagS; rw [← hd.out, HRz.out])
        go_wp2_with (go_at_call 103; refine Hat.out.mono ?_; rintro e1 w1 ⟨rfl, m1, hm1, hRd3, hF3⟩)
        go_ret
        rw [← Hres.out, Hsp.out]
        exact ⟨rfl, V, m1, hm1, (fun h => by cases h), hRd3, (HF2.out.drop hF3 HTw.out).wk _⟩
      | some p =>
        obtain ⟨ats, cl, r⟩ := p
        have Hsp : Hid (tagS (s.data.toList.drop k) L = (tellS ⟨1, low ((s.data.toList.drop k).takeWhile nameC), [], ats, cl⟩ L).bind (rawA (low ((s.data.toList.drop k).takeWhile nameC)) r)) := hid (by unfold tagS; rw [← hd.out, HRz.out]; rfl)
        obtain ⟨tk, htk2⟩ : ∃ tk : Tk, (⟨1, low ((s.data.toList.drop k).takeWhile nameC), [], ats, cl⟩ : Tk) = tk := ⟨_, rfl⟩
        have Hnb : Hid (nm = bs (low ((s.data.toList.drop k).takeWhile nameC))) := hid (bs_of hnm.out)
        have Hnz : Hid (nm.size ≤ 65536) := hid (by rw [← len_data, hnm.out, low, List.length_map]; have := (List.takeWhile_sublist (l := s.data.toList.drop k) nameC).length_le; rw [List.length_drop, len_data] at this; omega)
        obtain ⟨o, ho⟩ : ∃ o, tellS tk L = o := ⟨_, rfl⟩
        have HK := hid (fun (w2 : World) (m1 : Nat) (VA : Value) (h2 : Rd w2 base R s m1 V L) (hA : OwnA w2 base VA ats) => (by
          have := tell_any base R s m1 V L tk VA w2 HL.out h2 (by rw [← htk2]; exact hA)
          rw [ho, ← htk2, ← Hnb.out] at this
          exact this : Calls Tryd.prog 80 #[.pointer (some ⟨R, 0, none⟩), .agg #[.int .i64 1, .string nm, .string ⟨#[]⟩, VA, .bool cl]] w2 (RT base R s V w2 m1 o)))
        have Hlen := hid (fun L' (e : o = some L') => tellS_len HL.out (ho.trans e))
        rw [htk2, ho, ← hnm.out] at Hsp
        rw [Hres.out] at Hsp
        clear ho htk2
        go_wp2_with (go_at_call 103; refine Hat.out.mono ?_; rintro e1 w1 ⟨rfl, m1, VA, hm1, hr1, hRd3, hTb3, hOA, hF3⟩; have HRd3 := hid hRd3; have HTb3 := hid hTb3; have HF3 := hid hF3; have Hr1 := hid hr1; have HOA := hid hOA; have b0 := (hTb3.cell 0).trans rfl; have b1 := (hTb3.cell 1).trans rfl; have b2 := (hTb3.cell 2).trans rfl; have b3 := (hTb3.cell 3).trans rfl; have b4 := (hTb3.cell 4).trans rfl; clear hRd3 hTb3 hOA hF3 hr1)
        have HF5 := hid (HF2.out.drop HF3.out HTw.out)
        refine (HK.out _ m1 VA HRd3.out (HOA.out.low HRd2.out.1.2)).mono ?_
        intro e w2 hRT
        cases o with
        | none =>
          obtain ⟨rfl, row, hfr⟩ := hRT
          go_wp2
          rw [Hsp.out]
          exact ⟨rfl, rfl, row, (HF5.out.wk _).trans hfr⟩
        | some L' =>
          obtain ⟨rfl, V', h2, h3⟩ := hRT
          have HT6 := hid (h3.blk HTb3.out (Ne.symm (Blk.ne_ HRd3.out.2.1 HTb3.out (by decide))) (fun e => HvT.out e.symm))
          have t1 : w2.cell? ⟨T, 1, none⟩ = some (.string nm) := (HT6.out.cell 1).trans rfl
          have Hra := hid (raw_any base R s m1 V' L' nm w2 hs hm1 (Hlen.out L' rfl) Hnz.out h2)
          rw [Hr1.out, show rawA nm.data.toList r L' = res from by rw [Hsp.out]; rfl] at Hra
          have H6 := hid ((HF5.out.wk V.ownBlock).trans h3)
          clear h2 h3 b0 b1 b2 b3 b4
          go_wp2_with fail
          refine Hra.out.mono ?_
          intro e w4 hRB
          have hRB2 := RB.after H6.out hRB
          clear hRB Hsp
          cases res with
          | none =>
            obtain ⟨rfl, row, hfr⟩ := hRB2
            go_wp2
            exact ⟨rfl, rfl, row, hfr⟩
          | some p =>
            obtain ⟨bb, L2, r2⟩ := p
            obtain ⟨rfl, V2, k2, g1, g2, g3, g4⟩ := hRB2
            go_wp2
            go_ret
            exact ⟨rfl, V2, k2, g1, g2, g3, g4⟩
end Go.Proofs.YtihgmgpcdodknaaDoor
