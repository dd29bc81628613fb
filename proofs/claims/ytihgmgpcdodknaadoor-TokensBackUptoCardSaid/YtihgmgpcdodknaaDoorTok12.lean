/- The reader's tag, of an end tag. -/
import Derived.Test.YtihgmgpcdodknaaDoorTok11
import Derived.Deep.Cut
import Derived.Deep.CutBlock
set_option linter.unusedVariables false
namespace Go.Proofs.YtihgmgpcdodknaaDoor
open Go.RowKit

theorem all_next (p : UInt8 → Bool) (s : ByteArray) (k m : Nat) (hkm : k ≤ m) (hlt : m < s.size) (h : ((s.data.toList.drop k).take (m - k)).all p = true) (hp : p (s[m]'hlt) = true) : ((s.data.toList.drop k).take (m + 1 - k)).all p = true := by
  have e1 : m + 1 - k = (m - k) + 1 := by omega
  have hlen : m - k < (s.data.toList.drop k).length := by rw [List.length_drop, len_data]; omega
  rw [e1, List.take_succ_eq_append_getElem hlen, List.all_append, h]
  have e2 : (s.data.toList.drop k)[m - k] = s[m] := by
    rw [List.getElem_drop]
    have e3 : k + (m - k) = m := by omega
    simp only [e3]
    exact data_get s m hlt _
  rw [e2]
  simp [hp]
theorem loop_end (p : UInt8 → Bool) (s : ByteArray) (k m : Nat) (hkm : k ≤ m) (h : ((s.data.toList.drop k).take (m - k)).all p = true) (h2 : ∀ c r, s.data.toList.drop m = c :: r → p c = false) :
    s.data.toList.drop m = (s.data.toList.drop k).dropWhile p ∧ s.data.toList.drop k = (s.data.toList.drop k).takeWhile p ++ s.data.toList.drop m ∧ (s.data.toList.drop k).takeWhile p = (s.data.toList.drop k).take (m - k) := by
  have e0 : (s.data.toList.drop k).drop (m - k) = s.data.toList.drop m := by rw [List.drop_drop]; congr 1; omega
  have := tw_end p (s.data.toList.drop k) (m - k) h (fun c r hcr => h2 c r (by rw [← e0]; exact hcr))
  refine ⟨by rw [this.2, e0], ?_, this.1⟩
  rw [this.1, ← e0, List.take_append_drop]
theorem nameC_no (n : Int) (h0 : 0 ≤ n) (h1 : n ≤ 255) (hb : isBlank (bOf n) = false) (h2 : n ≠ 47) (h3 : n ≠ 62) : nameC (bOf n) = true := by
  have e1 := bOf_no n h0 h1 47 47 rfl h2
  have e2 := bOf_no n h0 h1 62 62 rfl h3
  unfold nameC
  rw [hb]
  simp [e1, e2]
theorem nameC_yes (n : Int) (h0 : 0 ≤ n) (h1 : n ≤ 255) (h : isBlank (bOf n) = false → n ≠ 47 → n ≠ 62 → False) : nameC (bOf n) = false := by
  unfold nameC
  by_cases hb : isBlank (bOf n) = true
  · rw [hb]; rfl
  · by_cases h2 : n = 47
    · subst h2; decide
    · by_cases h3 : n = 62
      · subst h3; decide
      · exact (h (by simpa using hb) h2 h3).elim
theorem Rd.setT {w : World} {base R T : Nat} {s : ByteArray} {m : Nat} {V : Value} {L : List Tk} {cs : Array Value} (h : Rd w base R s m V L) (hb : Blk w T 53 cs) (hT : V.ownBlock ≠ some T) (j : Nat) (v : Value) : Rd (w.setCell ⟨T, j, none⟩ v) base R s m V L :=
  h.thru hT hb ⟨rfl, rfl, rfl, by simp [World.setCell], fun k _ _ hk => Below.heap_setCell w _ _ k (fun e => hk (by rw [e])), .inl rfl⟩ (h.2.1.far (p := ⟨T, j, none⟩) (Blk.ne_ h.2.1 hb (by decide)) _)
theorem Fr.lowT {R T : Nat} {w W : World} (f : Fr R none none w W) (j : Nat) (v : Value) (hT : w.heap.size ≤ T) : Fr R none none w (W.setCell ⟨T, j, none⟩ v) :=
  f.low ⟨rfl, rfl, rfl, by simp [World.setCell], fun k hk => Below.heap_setCell W _ _ k (by simp only; omega)⟩
def TagMid (w wx : World) (base R : Nat) (s : ByteArray) (m : Nat) (V : Value) (L : List Tk) (kd : Int) (T : Nat) (nm : ByteArray) : Prop :=
  w.heap.size ≤ T ∧ V.ownBlock ≠ some T ∧ Rd wx base R s m V L ∧ Blk wx T 53 #[.int .i64 kd, .string nm, .string ⟨#[]⟩, .slice none 0 0, .bool false] ∧ Fr R none none w wx
theorem below_set {B : Nat} {w W : World} (h : Below B w W) (p : Addr) (v : Value) (hp : B ≤ p.block) : Below B w (W.setCell p v) :=
  ⟨h.os, h.tape, h.output, by simpa [World.setCell] using h.size, fun k hk => (Below.heap_setCell W p v k (by omega)).trans (h.block k hk)⟩
theorem tm_A {w wc w' : World} {base R : Nat} {s : ByteArray} {m : Nat} {V : Value} {L : List Tk} {kd : Int} {nm : ByteArray} (hRd : Rd wc base R s m V L) (hF : Fr R none none w wc) (hbk : Below wc.drew.heap.size wc.drew w') :
    TagMid w (w'.alloc (.cells #[.int .i64 kd, .string nm, .string ⟨#[]⟩, .slice none 0 0, .bool false] 53)) base R s m V L kd w'.heap.size nm := by
  have hb : Below wc.heap.size wc w' := ((Below.refl _ _).drew).trans hbk
  refine ⟨Nat.le_trans hF.size hb.size, fun e => ?_, (hRd.keep hb).keep (alloc_below _ _), Blk.new w' _ _, hF.trans ((Fr.of_below hb).trans (Fr.of_below (alloc_below w' _)))⟩
  have := (hRd.own _ e).2
  have := hb.size
  omega
theorem tm_B {w wc w' : World} {base R : Nat} {s : ByteArray} {m : Nat} {V : Value} {L : List Tk} {kd : Int} {nm : ByteArray} (hRd : Rd wc base R s m V L) (hF : Fr R none none w wc)
    (hbk : Below (wc.alloc (.cells #[.int .i64 0, .string ⟨#[]⟩, .string ⟨#[]⟩, .slice none 0 0, .bool false] 53)).drew.heap.size (wc.alloc (.cells #[.int .i64 0, .string ⟨#[]⟩, .string ⟨#[]⟩, .slice none 0 0, .bool false] 53)).drew w') :
    TagMid w (((((w'.setCell ⟨wc.heap.size, 0, none⟩ (.int .i64 kd)).setCell ⟨wc.heap.size, 1, none⟩ (.string nm)).setCell ⟨wc.heap.size, 2, none⟩ (.string ⟨#[]⟩)).setCell ⟨wc.heap.size, 3, none⟩ (.slice none 0 0)).setCell ⟨wc.heap.size, 4, none⟩ (.bool false)) base R s m V L kd wc.heap.size nm := by
  have hz : Below wc.heap.size wc (wc.alloc (.cells #[.int .i64 0, .string ⟨#[]⟩, .string ⟨#[]⟩, .slice none 0 0, .bool false] 53)).drew := (alloc_below wc _).drew
  have hb : Below wc.heap.size wc w' := hz.trans (hbk.mono hz.size)
  have q := Blk.below (Blk.drew (Blk.new wc 53 #[.int .i64 0, .string ⟨#[]⟩, .string ⟨#[]⟩, .slice none 0 0, .bool false])) hbk (by simp)
  have hW := below_set (below_set (below_set (below_set (below_set hb ⟨wc.heap.size, 0, none⟩ (.int .i64 kd) (Nat.le_refl _)) ⟨wc.heap.size, 1, none⟩ (.string nm) (Nat.le_refl _)) ⟨wc.heap.size, 2, none⟩ (.string ⟨#[]⟩) (Nat.le_refl _)) ⟨wc.heap.size, 3, none⟩ (.slice none 0 0) (Nat.le_refl _)) ⟨wc.heap.size, 4, none⟩ (.bool false) (Nat.le_refl _)
  exact ⟨hF.size, fun e => by have := (hRd.own _ e).2; omega, hRd.keep hW, ((((q.set_ 0 _).set_ 1 _).set_ 2 _).set_ 3 _).set_ 4 _, hF.trans (Fr.of_below hW)⟩
theorem Fr.drop {R T : Nat} {w W w' : World} (f1 : Fr R none none w W) (f2 : Fr R (some T) (some T) W w') (hT : w.heap.size ≤ T) : Fr R none none w w' :=
  ⟨f2.os.trans f1.os, f2.tape.trans f1.tape, f2.output.trans f1.output, Nat.le_trans f1.size f2.size, fun k hk hR _ => (f2.block k (Nat.lt_of_lt_of_le hk f1.size) hR (fun e => by injection e with e; omega)).trans (f1.block k hk hR (by simp)), .inl rfl⟩

set_option maxRecDepth 100000 in
set_option maxHeartbeats 6400000 in
theorem tagE_any (base R : Nat) (s : ByteArray) (k : Nat) (V : Value) (L : List Tk) (w : World) (hs : s.size ≤ 65536) (hk : k ≤ s.size) (hL : L.length ≤ 4096) (h : Rd w base R s k V L) :
    Calls Tryd.prog 81 #[.pointer (some ⟨R, 0, none⟩), .int .i64 2] w (RB base R s V w (tagE (s.data.toList.drop k) L)) := by
  have H := hid h
  have HL := hid hL
  have c1 := h.c1
  obtain ⟨res, hres⟩ : ∃ res, tagE (s.data.toList.drop k) L = res := ⟨_, rfl⟩
  rw [hres]
  have Hres := hid hres
  clear h hL hres
  go_enter Tryd.func81, Tryd.ntmps81
  go_upto_block 0 with fail
  go_cut [] from 7 (fun wx => ∃ m : Nat, k ≤ m ∧ m ≤ s.size ∧ Hid (s.data.toList.drop m = (s.data.toList.drop k).dropWhile nameC) ∧ Hid (s.data.toList.drop k = (s.data.toList.drop k).takeWhile nameC ++ s.data.toList.drop m) ∧ Hid ((s.data.toList.drop k).takeWhile nameC = (s.data.toList.drop k).take (m - k)) ∧ Hid (Rd wx base R s m V L) ∧ Hid (Fr R none none w wx))
  case first =>
    go_wp2_with fail
    go_loopg [] (s.size - k) (fun g wr => ∃ m : Nat, k ≤ m ∧ m ≤ s.size ∧ g = s.size - m ∧ Hid (((s.data.toList.drop k).take (m - k)).all nameC = true) ∧ Hid (Rd wr base R s m V L) ∧ Hid (Fr R none none w wr))
    case atStart => exact ⟨k, Nat.le_refl _, hk, rfl, hid (by simp), H, hid (Fr.refl _ _ _)⟩
    case round =>
      obtain ⟨m, hkm, hms, rfl, hall, hRd, hF⟩ := hrel
      have c0 := hRd.out.c0
      have c1 := hRd.out.c1
      have f1 := hRd.out.fz 1
      by_cases hlt : m < s.size
      · obtain ⟨n, hn, hn0, hn1, hbn⟩ := byteOf s m hlt
        have Hbl := hid (fun W => (blank_any n hn0 hn1 W).mono fun e w' h => (⟨h.1, h.2.symm⟩ : e = _ ∧ w' = W))
        have hmi0 : (0 : Int) ≤ (m : Int) := by omega
        have hmi1 : (m : Int) < (s.size : Int) := by omega
        have hmi2 : decide ((m : Int) < (s.size : Int)) = true := decide_eq_true hmi1
        have hmi3 : decide (m < s.size) = true := decide_eq_true hlt
        by_cases hgo : isBlank (bOf n) = false ∧ n ≠ 47 ∧ n ≠ 62
        · obtain ⟨hb0, hn47, hn62⟩ := hgo
          have hnb : (n == 62) = false := beq_eq_false_iff_ne.2 hn62
          have hnm : ¬ n = 62 := hn62
          have hnb2 : (n == 47) = false := beq_eq_false_iff_ne.2 hn47
          have hnm2 : ¬ n = 47 := hn47
          have hnc : (n != 62) = true := by rw [bne, hnb]; rfl
          have hnc2 : (n != 47) = true := by rw [bne, hnb2]; rfl
          rw [hb0] at Hbl
          go_wp2_with (go_quiet ((go_at_call 101; exact Calls.quiet_of_same (Hbl.out _))))
          go_roundg (s.size - (m + 1))
          case measure => omega
          case rel =>
            refine ⟨m + 1, by omega, by omega, rfl, hid (all_next nameC s k m hkm hlt hall.out ?_), hid ((rd_drewN hRd.out _).atI (m + 1) (by omega)), hid (hF.out.trans (((Fr.refl _ _ _).drewN _).trans (Fr.setR 1 _)))⟩
            rw [← hbn]
            exact nameC_no n hn0 hn1 hb0 hn47 hn62
        · have hc : nameC (bOf n) = false := nameC_yes n hn0 hn1 (fun h1 h2 h3 => hgo ⟨h1, h2, h3⟩)
          have Hend := hid (loop_end nameC s k m hkm hall.out (fun c r hcr => by rw [dropAt s m hlt, ← hbn] at hcr; injection hcr with h1 h2; rw [← h1]; exact hc))
          by_cases hb : isBlank (bOf n) = true
          · rw [hb] at Hbl
            go_wp2_with (go_quiet ((go_at_call 101; exact Calls.quiet_of_same (Hbl.out _))))
            go_meet
            case rel => exact ⟨m, hkm, hms, hid Hend.out.1, hid Hend.out.2.1, hid Hend.out.2.2, hid (rd_drewN hRd.out _), hid (hF.out.trans ((Fr.refl _ _ _).drewN _))⟩
          · have hb' : isBlank (bOf n) = false := by simpa using hb
            rw [hb'] at Hbl
            by_cases h47 : n = 47
            · subst h47
              go_wp2_with (go_quiet ((go_at_call 101; exact Calls.quiet_of_same (Hbl.out _))))
              go_meet
              case rel => exact ⟨m, hkm, hms, hid Hend.out.1, hid Hend.out.2.1, hid Hend.out.2.2, hid (rd_drewN hRd.out _), hid (hF.out.trans ((Fr.refl _ _ _).drewN _))⟩
            · obtain rfl : n = 62 := Decidable.byContradiction fun h => hgo ⟨hb', h47, h⟩
              go_wp2_with (go_quiet ((go_at_call 101; exact Calls.quiet_of_same (Hbl.out _))))
              go_meet
              case rel => exact ⟨m, hkm, hms, hid Hend.out.1, hid Hend.out.2.1, hid Hend.out.2.2, hid (rd_drewN hRd.out _), hid (hF.out.trans ((Fr.refl _ _ _).drewN _))⟩
      · obtain rfl : m = s.size := by omega
        have Hend := hid (loop_end nameC s k s.size hkm hall.out (fun c r hcr => by rw [List.drop_of_length_le (by rw [len_data]; exact Nat.le_refl _)] at hcr; cases hcr))
        go_wp2_with (go_quiet (fail))
        go_meet
        case rel => exact ⟨s.size, hkm, hms, hid Hend.out.1, hid Hend.out.2.1, hid Hend.out.2.2, hid (rd_drewN hRd.out _), hid (hF.out.trans ((Fr.refl _ _ _).drewN _))⟩
  case rest =>
    obtain ⟨m, hkm, hms, hd, happ, htk, hRd, hF⟩ := hcut
    go_upto_region 4 with fail
    go_cut [6] from 7 (fun v6 wx => ∃ (T : Nat) (nm : ByteArray), v6 = .pointer (some ⟨T, 0, none⟩) ∧ Hid (nm.data.toList = low ((s.data.toList.drop k).takeWhile nameC)) ∧ Hid (TagMid w wx base R s m V L 2 T nm))
    case first =>
      have c0 := hRd.out.c0
      have c1 := hRd.out.c1
      have hRlt := hRd.out.lt
      have hk0 : (0 : Int) ≤ (k : Int) := by omega
      have hk1 : (k : Int) ≤ (m : Int) := by omega
      have hk2 : (m : Int) ≤ (s.size : Int) := by omega
      have Hsz := hid (fun a b => (by rw [ByteArray.size_extract]; omega : (s.extract a b).size ≤ 1099511627776))
      refine wp_region_noPanic ?_
      go_region_law ((go_simp; go_at_call 102; refine (lower_any _ _ (Hsz.out _ _)).mono ?_; rintro e' w' ⟨t, rfl, ht, hbk⟩; (try (have q := Blk.below (Blk.drew (Blk.new wc 53 #[.int .i64 0, .string ⟨#[]⟩, .string ⟨#[]⟩, .slice none 0 0, .bool false])) hbk (by simp); have q0 := (q.cell 0).trans rfl; have q1 := (q.cell 1).trans rfl; have q2 := (q.cell 2).trans rfl; have q3 := (q.cell 3).trans rfl; have q4 := (q.cell 4).trans rfl; have p0 := q.frozen 0; have p1 := q.frozen 1; have p2 := q.frozen 2; have p3 := q.frozen 3; have p4 := q.frozen 4)); dsimp only))
      all_goals
        refine NoPanic.normal ?_
        go_wp2_with fail
        go_meet
        case rel =>
          refine ⟨_, t, rfl, hid ?_, hid ?_⟩
          · rw [ht.out, data_extract, List.drop_take, htk.out]
          · first
              | (with_reducible exact tm_A hRd.out hF.out hbk)
              | (with_reducible exact tm_B hRd.out hF.out hbk)
    case rest =>
      obtain ⟨T, nm, rfl, hnm, hTM⟩ := hcut
      obtain ⟨hTw, hvT, hRd2, hTb, hF2⟩ := hTM.out
      have HTw := hid hTw
      have HvT := hid hvT
      have HRd2 := hid hRd2
      have HF2 := hid hF2
      have Hat := hid (attrs_any base R T s m V L 2 nm wc hs hms hRd2 hTb hvT)
      obtain ⟨Rz, hRz⟩ : ∃ Rz, atT .bef (s.data.toList.drop m) [] = Rz := ⟨_, rfl⟩
      rw [hRz] at Hat
      have HRz := hid hRz
      clear hTw hvT hRd2 hTb hF2 hRz hTM
      cases Rz with
      | none =>
        have Hsp : Hid (tagE (s.data.toList.drop k) L = some (false, L, [])) := hid (by unfold tagE; rw [← hd.out, HRz.out])
        go_wp2_with (go_at_call 103; refine Hat.out.mono ?_; rintro e1 w1 ⟨rfl, m1, hm1, hRd3, hF3⟩)
        go_ret
        rw [← Hres.out, Hsp.out]
        exact ⟨rfl, V, m1, hm1, (fun h => by cases h), hRd3, (HF2.out.drop hF3 HTw.out).wk _⟩
      | some p =>
        obtain ⟨ats, cl, r⟩ := p
        have Hsp : Hid (tagE (s.data.toList.drop k) L = (tellS ⟨2, low ((s.data.toList.drop k).takeWhile nameC), [], [], false⟩ L).map (true, ·, r)) := hid (by unfold tagE; rw [← hd.out, HRz.out])
        obtain ⟨tk, htk2⟩ : ∃ tk : Tk, (⟨2, low ((s.data.toList.drop k).takeWhile nameC), [], [], false⟩ : Tk) = tk := ⟨_, rfl⟩
        have Hnb : Hid (nm = bs (low ((s.data.toList.drop k).takeWhile nameC))) := hid (bs_of hnm.out)
        obtain ⟨o, ho⟩ : ∃ o, tellS tk L = o := ⟨_, rfl⟩
        have HK := hid (fun (w2 : World) (m1 : Nat) (h2 : Rd w2 base R s m1 V L) => (by
          have := tell_any base R s m1 V L tk (.slice none 0 0) w2 HL.out h2 (by rw [← htk2]; exact OwnA.nil _ _)
          rw [ho, ← htk2, ← Hnb.out] at this
          exact this : Calls Tryd.prog 80 #[.pointer (some ⟨R, 0, none⟩), .agg #[.int .i64 2, .string nm, .string ⟨#[]⟩, .slice none 0 0, .bool false]] w2 (RT base R s V w2 m1 o)))
        rw [htk2, ho] at Hsp
        rw [Hres.out] at Hsp
        clear ho htk2
        go_wp2_with (go_at_call 103; refine Hat.out.mono ?_; rintro e1 w1 ⟨rfl, m1, VA, hm1, hr1, hRd3, hTb3, hOA, hF3⟩; have HRd3 := hid hRd3; have HTb3 := hid hTb3; have HF3 := hid hF3; have Hr1 := hid hr1; have b0 := (hTb3.cell 0).trans rfl; have b1 := (hTb3.cell 1).trans rfl; have b2 := (hTb3.cell 2).trans rfl; have b3 := (hTb3.cell 3).trans rfl; have b4 := (hTb3.cell 4).trans rfl; have g3 := hTb3.frozen 3; have g4 := hTb3.frozen 4; clear hRd3 hTb3 hOA hF3 hr1)
        have HR4 := hid (HRd3.out.setT HTb3.out HvT.out 3 (.slice none 0 0))
        have HT4 := hid (HTb3.out.set_ 3 (.slice none 0 0))
        have HR5 := hid (HR4.out.setT HT4.out HvT.out 4 (.bool false))
        have HF5 := hid (((HF2.out.drop HF3.out HTw.out).lowT 3 (.slice none 0 0) HTw.out).lowT 4 (.bool false) HTw.out)
        refine (HK.out _ m1 HR5.out).mono ?_
        intro e w2 hRT
        cases o with
        | none =>
          obtain ⟨rfl, row, hfr⟩ := hRT
          go_wp2
          rw [Hsp.out]
          exact ⟨rfl, rfl, row, (HF5.out.wk _).trans hfr⟩
        | some L' =>
          obtain ⟨rfl, V', h2, h3⟩ := hRT
          go_wp2
          go_ret
          rw [Hsp.out]
          exact ⟨rfl, V', m1, hm1, (fun _ => Hr1.out), h2, (HF5.out.wk _).trans h3⟩
end Go.Proofs.YtihgmgpcdodknaaDoor
