/- The reader's raw: the text of an element that has no others within. -/
import Derived.Test.YtihgmgpcdodknaaDoorTok12
import Derived.Test.YtihgmgpcdodknaaDoorTok13
set_option linter.unusedVariables false
namespace Go.Proofs.YtihgmgpcdodknaaDoor
open Go.RowKit

theorem tellS_len {t : Tk} {L L' : List Tk} (hL : L.length ≤ 4096) (h : tellS t L = some L') : L'.length ≤ 4096 := by
  unfold tellS at h
  split at h
  · cases h
  · injection h with h
    rw [← h, List.length_append]
    simp only [List.length_cons, List.length_nil]
    omega
theorem toldS_len {x : List UInt8} {d : Bool} {L L' : List Tk} (hL : L.length ≤ 4096) (h : toldS x d L = some L') : L'.length ≤ 4096 := by
  unfold toldS at h
  split at h
  · split at h
    · injection h with h; rw [← h]; exact hL
    · exact tellS_len hL h
  · split at h
    · injection h with h; rw [← h]; exact hL
    · exact tellS_len hL h
theorem RB.after {base R : Nat} {s : ByteArray} {V V' : Value} {w w1 : World} {o : Res} {e : Ending} {w' : World} (f : Fr R V.ownBlock V'.ownBlock w w1) (h : RB base R s V' w1 o e w') : RB base R s V w o e w' := by
  cases o with
  | none =>
    obtain ⟨h1, row, h2⟩ := h
    exact ⟨h1, row, f.trans h2⟩
  | some p =>
    obtain ⟨b, L', r⟩ := p
    obtain ⟨h1, V2, k', h2, h3, h4, h5⟩ := h
    exact ⟨h1, V2, k', h2, h3, h4, f.trans h5⟩
theorem ends_room {nm l : List UInt8} (h : endsB nm l = true) : nm.length + 2 ≤ l.length := by
  unfold endsB startsB at h
  rw [Bool.and_eq_true, Bool.and_eq_true, decide_eq_true_iff] at h
  simpa using h.1.1
def rawA (nm l : List UInt8) (L : List Tk) : Res := if elemK nm < 1 ∨ 3 < elemK nm then some (true, L, l) else rawS (elemK nm) nm l L
theorem rawN_hit (nm r : List UInt8) (h : endsB nm (60 :: r) = true) : rawN nm (60 :: r) = some 0 := by rw [rawN, if_pos ⟨rfl, h⟩]
theorem rawN_pass (nm r : List UInt8) (c : UInt8) (h : c = 60 → endsB nm (c :: r) = false) : rawN nm (c :: r) = (rawN nm r).map (· + 1) := by
  rw [rawN, if_neg]
  rintro ⟨h1, h2⟩
  rw [h h1] at h2
  cases h2
theorem map_add (o : Option Nat) (a : Nat) : (o.map (· + 1)).map (· + a) = o.map (· + (a + 1)) := by cases o <;> simp <;> omega

set_option maxRecDepth 100000 in
set_option maxHeartbeats 6400000 in
theorem raw_any (base R : Nat) (s : ByteArray) (k : Nat) (V : Value) (L : List Tk) (nm : ByteArray) (w : World) (hs : s.size ≤ 65536) (hk : k ≤ s.size) (hL : L.length ≤ 4096) (hn : nm.size ≤ 65536) (h : Rd w base R s k V L) :
    Calls Tryd.prog 104 #[.pointer (some ⟨R, 0, none⟩), .string nm] w (RB base R s V w (rawA nm.data.toList (s.data.toList.drop k) L)) := by
  have H := hid h
  have HL := hid hL
  have c1 := h.c1
  obtain ⟨res, hres⟩ : ∃ res, rawA nm.data.toList (s.data.toList.drop k) L = res := ⟨_, rfl⟩
  rw [hres]
  have Hel := hid (element_any nm)
  obtain ⟨kk, hkk⟩ : ∃ kk, elemK nm.data.toList = kk := ⟨_, rfl⟩
  have Hkk := hid hkk
  rw [hkk] at Hel
  have Hres := hid hres
  clear h hL hres hkk
  by_cases hout : kk < 1 ∨ 3 < kk
  · have Hr2 := hid (show res = some (true, L, s.data.toList.drop k) from by rw [← Hres.out]; unfold rawA; rw [Hkk.out, if_pos hout])
    have hfin : RB base R s V w res (.returned (.bool true)) w := by rw [Hr2.out]; exact ⟨rfl, V, k, hk, fun _ => rfl, H.out, Fr.refl _ _ _⟩
    by_cases h1 : kk < 1
    · have h1d : decide (kk < 1) = true := decide_eq_true h1
      go_enter Tryd.func104, Tryd.ntmps104
      go_wp2_with (go_at_call 46; refine (Hel.out _).mono ?_; rintro e w ⟨rfl, hw⟩; obtain rfl := hw)
      go_ret
      exact hfin
    · have h1d : decide (kk < 1) = false := decide_eq_false h1
      have h2 : 3 < kk := by omega
      have h2d : decide (3 < kk) = true := decide_eq_true h2
      go_enter Tryd.func104, Tryd.ntmps104
      go_wp2_with (go_at_call 46; refine (Hel.out _).mono ?_; rintro e w ⟨rfl, hw⟩; obtain rfl := hw)
      go_ret
      exact hfin
  · have h1 : ¬ kk < 1 := by omega
    have h2 : ¬ 3 < kk := by omega
    have h1d : decide (kk < 1) = false := decide_eq_false h1
    have h2d : decide (3 < kk) = false := decide_eq_false h2
    have Hr2 := hid (show res = rawS kk nm.data.toList (s.data.toList.drop k) L from by rw [← Hres.out]; unfold rawA; rw [Hkk.out, if_neg hout])
    clear hout
    obtain ⟨d, hd⟩ : ∃ d, (kk == 1) = d := ⟨_, rfl⟩
    have Hd := hid hd
    go_enter Tryd.func104, Tryd.ntmps104
    go_wp2_with (go_at_call 46; refine (Hel.out _).mono ?_; rintro e w ⟨rfl, hw⟩; obtain rfl := hw)
    clear c1
    go_loopg [7] (s.size - k) (fun g v7 wr => ∃ m : Nat, v7 = .int .i64 (m : Int) ∧ k ≤ m ∧ m ≤ s.size ∧ g = s.size - m ∧ Hid (rawN nm.data.toList (s.data.toList.drop k) = (rawN nm.data.toList (s.data.toList.drop m)).map (· + (m - k))) ∧ Hid (Rd wr base R s k V L) ∧ Hid (Fr R none none w wr))
    case atStart => exact ⟨k, rfl, Nat.le_refl _, hk, rfl, hid (by cases rawN nm.data.toList (s.data.toList.drop k) <;> simp), H, hid (Fr.refl _ _ _)⟩
    case round =>
      obtain ⟨m, rfl, hkm, hms, rfl, hN, hRd, hF⟩ := hrel
      have c0 := hRd.out.c0
      have hk0 : (0 : Int) ≤ (k : Int) := by omega
      have hm0 : (0 : Int) ≤ (m : Int) := by omega
      by_cases hlt : m < s.size
      · obtain ⟨n, hn', hn0, hn1, hbn⟩ := byteOf s m hlt
        have Hdm := hid (dropAt s m hlt)
        rw [← hbn] at Hdm
        have hmi1 : (m : Int) < (s.size : Int) := by omega
        have hmi2 : decide ((m : Int) < (s.size : Int)) = true := decide_eq_true hmi1
        have hmi3 : decide (m < s.size) = true := decide_eq_true hlt
        have hmk : (k : Int) ≤ (m : Int) := by omega
        clear hbn
        by_cases h60 : n = 60
        · subst h60
          have Hd60 : Hid (s.data.toList.drop m = 60 :: s.data.toList.drop (m + 1)) := hid (Hdm.out.trans (by rw [show bOf 60 = (60 : UInt8) from by decide]))
          obtain ⟨b, hb⟩ : ∃ b, endsB nm.data.toList (s.data.toList.drop m) = b := ⟨_, rfl⟩
          have Hb := hid hb
          have Hen := hid (ends_any base R s k V L m nm wr hs hms hn hRd.out)
          rw [hb] at Hen
          clear hb
          cases b with
          | false =>
            go_wp2_with (go_at_call 118; refine Hen.out.mono ?_; rintro e w1 ⟨rfl, hb1⟩)
            go_roundg (s.size - (m + 1))
            case measure => omega
            case rel =>
              refine ⟨m + 1, by go_num, by omega, by omega, rfl, hid ?_, hid (hRd.out.keep hb1), hid (hF.out.trans (Fr.of_below hb1))⟩
              rw [hN.out, Hdm.out, rawN_pass nm.data.toList _ _ (fun _ => by rw [← Hdm.out]; exact Hb.out), map_add, show m + 1 - k = m - k + 1 from by omega]
          | true =>
            have hroom := ends_room Hb.out
            rw [List.length_drop, len_data, len_data] at hroom
            have Hhit : Hid (rawN nm.data.toList (s.data.toList.drop k) = some (m - k)) := hid (by rw [hN.out, Hd60.out, rawN_hit nm.data.toList _ (by have := Hb.out; rw [Hd60.out] at this; exact this)]; simp)
            obtain ⟨o, ho⟩ : ∃ o, toldS ((s.data.toList.drop k).take (m - k)) d L = o := ⟨_, rfl⟩
            have Hr3 := hid (show res = o.bind (tagE (s.data.toList.drop (m + 2))) from by
              rw [Hr2.out]
              unfold rawS
              rw [Hhit.out, ← ho, Hd.out]
              simp only
              rw [List.drop_drop]
              congr 3
              omega)
            have Hto := hid (fun (w1 : World) (h1 : Rd w1 base R s k V L) => (by
              have := told_any base R s k V L (s.extract k m) d w1 (by rw [ByteArray.size_extract]; omega) HL.out h1
              rw [data_extract, List.drop_take, ho] at this
              exact this : Calls Tryd.prog 52 #[.pointer (some ⟨R, 0, none⟩), .string (s.extract k m), .bool d] w1 (RT base R s V w1 k o)))
            have Hlen := hid (fun L' (e : o = some L') => toldS_len (x := (s.data.toList.drop k).take (m - k)) (d := d) HL.out (ho.trans e))
            clear ho
            go_wp2_with (go_at_call 118; refine Hen.out.mono ?_; rintro e w1 ⟨rfl, hb1⟩; have d0 := (hRd.out.keep hb1).c0)
            refine (Hto.out _ (hRd.out.keep hb1)).mono ?_
            intro e w2 hRT
            cases o with
            | none =>
              obtain ⟨rfl, row, hfr⟩ := hRT
              go_wp2
              rw [Hr3.out]
              exact ⟨rfl, rfl, row, ((hF.out.trans (Fr.of_below hb1)).wk _).trans hfr⟩
            | some L' =>
              obtain ⟨rfl, V', h3, h4⟩ := hRT
              have q1 := h3.c1
              have p1 := h3.fz 1
              have H3 := hid h3
              have H4 := hid (((hF.out.trans (Fr.of_below hb1)).wk V.ownBlock).trans h4)
              have hm2 : IntKind.i64.wrap ((m : Int) + 2) = (m : Int) + 2 := IntWalk.i64_in _ (by omega)
              have Hta := hid (fun (w3 : World) (h5 : Rd w3 base R s (m + 2) V' L') => tagE_any base R s (m + 2) V' L' w3 hs (by omega) (Hlen.out L' rfl) h5)
              clear h3 h4
              go_wp2_with fail
              refine (Hta.out _ (H3.out.atI (m + 2) (by omega))).mono ?_
              intro e w4 hRB
              have hRB2 := RB.after (H4.out.trans (Fr.setR 1 _)) hRB
              clear hRB
              rw [show tagE (s.data.toList.drop (m + 2)) L' = res from by rw [Hr3.out]; rfl] at hRB2
              clear Hr3
              cases res with
              | none =>
                obtain ⟨rfl, row, hfr⟩ := hRB2
                go_wp2
                exact ⟨rfl, rfl, row, hfr⟩
              | some p =>
                obtain ⟨b2, L2, r2⟩ := p
                obtain ⟨rfl, V2, k2, g1, g2, g3, g4⟩ := hRB2
                go_wp2
                go_ret
                exact ⟨rfl, V2, k2, g1, g2, g3, g4⟩
        · have h60b : (n == 60) = false := beq_eq_false_iff_ne.2 h60
          go_wp2_with fail
          go_roundg (s.size - (m + 1))
          case measure => omega
          case rel =>
            refine ⟨m + 1, by go_num, by omega, by omega, rfl, hid ?_, hRd, hF⟩
            rw [hN.out, Hdm.out, rawN_pass nm.data.toList _ _ (fun e => (bOf_no n hn0 hn1 60 60 rfl h60 e).elim), map_add, show m + 1 - k = m - k + 1 from by omega]
      · obtain rfl : m = s.size := by omega
        have hmi2 : decide ((s.size : Int) < (s.size : Int)) = false := decide_eq_false (by omega)
        obtain ⟨o, ho⟩ : ∃ o, toldS (s.data.toList.drop k) d L = o := ⟨_, rfl⟩
        have Hr3 := hid (show res = o.map (true, ·, []) from by
          rw [Hr2.out]
          unfold rawS
          rw [hN.out, List.drop_of_length_le (by rw [len_data]; exact Nat.le_refl _), ← ho, Hd.out]
          rfl)
        have Hto := hid (fun (w1 : World) (h1 : Rd w1 base R s k V L) => (by
          have := told_any base R s k V L (s.extract k s.size) d w1 (by rw [ByteArray.size_extract]; omega) HL.out h1
          rw [data_extract, take_all, ho] at this
          exact this : Calls Tryd.prog 52 #[.pointer (some ⟨R, 0, none⟩), .string (s.extract k s.size), .bool d] w1 (RT base R s V w1 k o)))
        have hki : (k : Int) ≤ (s.size : Int) := by omega
        clear ho
        go_wp2_with fail
        refine (Hto.out _ hRd.out).mono ?_
        intro e w2 hRT
        cases o with
        | none =>
          obtain ⟨rfl, row, hfr⟩ := hRT
          go_wp2
          rw [Hr3.out]
          exact ⟨rfl, rfl, row, (hF.out.wk _).trans hfr⟩
        | some L' =>
          obtain ⟨rfl, V', h3, h4⟩ := hRT
          have q0 := h3.c0
          have q1 := h3.c1
          have p1 := h3.fz 1
          have H3 := hid h3
          have H4 := hid ((hF.out.wk V.ownBlock).trans h4)
          clear h3 h4
          go_wp2
          go_ret
          rw [Hr3.out]
          exact ⟨rfl, V', s.size, Nat.le_refl _, fun _ => List.drop_of_length_le (by rw [len_data]; exact Nat.le_refl _), H3.out.atI s.size (by omega), H4.out.trans (Fr.setR 1 _)⟩
end Go.Proofs.YtihgmgpcdodknaaDoor
