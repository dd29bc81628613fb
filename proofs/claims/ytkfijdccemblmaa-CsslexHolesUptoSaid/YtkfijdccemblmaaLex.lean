/- Package csslex: quoted, behind, named, one. -/
import Derived.Test.YtkfijdccemblmaaLexP
import Derived.Test.YtkfijdccemblmaaOct2
import Derived.Test.YtkfijdccemblmaaFunc
import Derived.WalkLawsBesides
set_option linter.unusedVariables false
namespace Go.Proofs.Ytkfijdccemblmaa
open Go.RowKit

theorem drop_extract (s : ByteArray) (k : Nat) (h : k ≤ s.size) : (s.extract k s.size).data.toList = s.data.toList.drop k := by
  rw [data_extract, take_all]
theorem drop_at (s : ByteArray) (k : Nat) (h : k < s.size) : s.data.toList.drop k = s[k] :: s.data.toList.drop (k + 1) := by
  have hkl : k < s.data.toList.length := by rw [len_data]; exact h
  rw [List.drop_eq_getElem_cons hkl]; rfl
/-- where a text ends -/
def quoI (s : ByteArray) (k : Nat) (h : k < s.size) : Int := endI (k + 1) (quotN s[k] (s.data.toList.drop (k + 1)))

set_option maxHeartbeats 800000 in
theorem quoted_any (s : ByteArray) (k : Nat) (w : World) (hs : s.size ≤ 1099511627776) (hk : k < s.size) :
    Calls Try.prog 24 #[.string s, .int .i64 k] w fun e w' => e = .returned (.int .i64 (quoI s k hk)) ∧ w = w' := by
  obtain ⟨E, hE⟩ : ∃ E, quoI s k hk = E := ⟨_, rfl⟩
  rw [hE]
  unfold quoI at hE
  obtain ⟨q, hq⟩ : ∃ q, s[k] = q := ⟨_, rfl⟩
  rw [hq] at hE
  obtain ⟨qn, hqn⟩ : ∃ qn : Int, (q.toNat : Int) = qn := ⟨_, rfl⟩
  have Hq := hid hq
  have hqv : ((s[k]'hk).toNat : Int) = qn := by rw [hq, hqn]
  have HE := hid hE
  have Hqn := hid hqn
  clear hE hq hqn
  go_enter Try.func24, Try.ntmps24
  go_wp2
  go_loop [5] (fun i => ∃ j : Nat, k + 1 ≤ j ∧ j ≤ s.size + 1 ∧ i = .int .i64 j ∧ Hid (E = endI j (quotN q (s.data.toList.drop j)))) (fun i => s.size + 2 - (intOf i).toNat)
  case atStart => exact ⟨k + 1, Nat.le_refl _, by omega, by go_num, hid HE.out.symm⟩
  case round =>
    obtain ⟨j, hj, hj2, rfl, hp⟩ := hrel
    by_cases hlt : j < s.size
    · have Hd := hid (drop_at s j hlt)
      obtain ⟨c, hc⟩ : ∃ c, s[j]'hlt = c := ⟨_, rfl⟩
      rw [hc] at Hd
      obtain ⟨n, hn⟩ : ∃ n : Int, ((s[j]'hlt).toNat : Int) = n := ⟨_, rfl⟩
      have Hb : Hid (bOf n = c) := hid (by rw [← hn, bOf_cast, hc])
      have hn0 : 0 ≤ n ∧ n ≤ 255 := by have := (s[j]'hlt).toNat_lt; omega
      obtain ⟨hn0, hn1⟩ := hn0
      have hq0 : 0 ≤ qn ∧ qn ≤ 255 := by have := q.toNat_lt; have := Hqn.out; omega
      have Hbq : Hid (bOf qn = q) := hid (by rw [← Hqn.out, bOf_cast])
      clear hc
      have hcq : c = q ↔ n = qn := by rw [← Hb.out, ← Hbq.out]; exact bOf_eq n qn hn0 hn1 hq0.1 hq0.2
      have hck : ∀ m : Int, 0 ≤ m → m ≤ 255 → (c = bOf m ↔ n = m) := fun m h0 h1 => by rw [← Hb.out]; exact bOf_eq n m hn0 hn1 h0 h1
      by_cases h1 : n = 92
      · have hc92 : c = 92 := (hck 92 (by omega) (by omega)).2 h1
        subst h1
        clear hck hcq
        go_wp2
        go_round
        case rel =>
          refine ⟨j + 2, by omega, by omega, by go_num, hid ?_⟩
          rw [hp.out, Hd.out, hc92, quotN_esc, endI_map, List.drop_drop]
        case measure => simp [intOf]; omega
      · have hc92 : c ≠ 92 := fun h => h1 ((hck 92 (by omega) (by omega)).1 h)
        have h1b : (n == 92) = false := beq_eq_false_iff_ne.2 h1
        by_cases h2 : n = 10 ∨ n = 13
        · have hl : c = 10 ∨ c = 13 := by
            rcases h2 with h | h
            · exact .inl ((hck 10 (by omega) (by omega)).2 h)
            · exact .inr ((hck 13 (by omega) (by omega)).2 h)
          have HF : Hid (E = -1) := hid (by rw [hp.out, Hd.out, quotN_line q c _ hl]; rfl)
          clear hck hcq
          rcases h2 with rfl | rfl
          · go_wp2
            go_ret
            exact ⟨ret_int HF.out.symm, rfl⟩
          · go_wp2
            go_ret
            exact ⟨ret_int HF.out.symm, rfl⟩
        · have hl : ¬ (c = 10 ∨ c = 13) := by
            rintro (h | h)
            · exact h2 (.inl ((hck 10 (by omega) (by omega)).1 h))
            · exact h2 (.inr ((hck 13 (by omega) (by omega)).1 h))
          have h2a : (n == 10) = false := beq_eq_false_iff_ne.2 (fun h => h2 (.inl h))
          have h2b : (n == 13) = false := beq_eq_false_iff_ne.2 (fun h => h2 (.inr h))
          by_cases h3 : n = qn
          · have h3b : (n == qn) = true := beq_iff_eq.2 h3
            have HF : Hid (E = (j : Int) + 1) := hid (by rw [hp.out, Hd.out, quotN_end q c _ hc92 hl (hcq.2 h3)]; rfl)
            clear hck hcq h3
            go_wp2
            go_ret
            exact ⟨ret_int HF.out.symm, rfl⟩
          · have h3b : (n == qn) = false := beq_eq_false_iff_ne.2 h3
            have HF : Hid (E = endI (j + 1) (quotN q (s.data.toList.drop (j + 1)))) := hid (by rw [hp.out, Hd.out, quotN_more q c _ hc92 hl (fun h => h3 (hcq.1 h)), endI_map])
            clear hck hcq h3
            go_wp2
            go_round
            case rel => exact ⟨j + 1, by omega, by omega, by go_num, hid HF.out⟩
            case measure => simp [intOf]; omega
    · have HF : Hid (E = -1) := hid (by rw [hp.out, List.drop_of_length_le (by rw [len_data]; omega)]; rfl)
      go_wp2
      go_ret
      exact ⟨ret_int HF.out.symm, rfl⟩

theorem idxO_bound (l p : List UInt8) : -1 ≤ Lib.index l p ∧ (p ≠ [] → Lib.index l p ≤ l.length) := by
  have h := Lib.index_ge l p
  refine ⟨h, fun hp => ?_⟩
  by_cases h0 : Lib.index l p < 0
  · omega
  · have := idxO_le l p (Lib.index l p).toNat hp (by unfold idxO; rw [if_neg h0])
    omega
/-- behind p -/
def behI (s p : ByteArray) (k : Nat) : Int := endI k ((idxO (s.data.toList.drop k) p.data.toList).map (· + p.size))

set_option maxHeartbeats 800000 in
theorem behind_any (s p : ByteArray) (k : Nat) (w : World) (hs : s.size ≤ 1048600) (hk : k ≤ s.size) (hp : 1 ≤ p.size) (hp2 : p.size ≤ 8) (hm : MaxAt w) :
    Calls Try.prog 26 #[.string s, .int .i64 k, .string p] w fun e w' => e = .returned (.int .i64 (behI s p k)) ∧ w = w' := by
  obtain ⟨m, hm⟩ := hm
  obtain ⟨E, hE⟩ : ∃ E, behI s p k = E := ⟨_, rfl⟩
  rw [hE]
  have hI := fun W h => Try.strings_Index (s.extract k s.size) p m W (by rw [ByteArray.size_extract]; omega) h
  rw [drop_extract s k hk] at hI
  unfold behI idxO at hE
  have hbd := idxO_bound (s.data.toList.drop k) p.data.toList
  have hpn : p.data.toList ≠ [] := fun e => by have := len_data p; rw [e] at this; simp at this; omega
  have hb2 := hbd.2 hpn
  have hb1 := hbd.1
  rw [List.length_drop, len_data] at hb2
  obtain ⟨i, hi⟩ : ∃ i, Lib.index (s.data.toList.drop k) p.data.toList = i := ⟨_, rfl⟩
  rw [hi] at hE hb1 hb2
  simp only [hi] at hI
  have HI := hid hI
  clear hI hi hbd hpn
  by_cases h0 : i < 0
  · rw [if_pos h0] at hE
    have HE : Hid (-1 = E) := hid hE
    clear hE
    go_enter Try.func26, Try.ntmps26
    go_wp2_with fail
    refine (HI.out _ hm).mono ?_
    rintro e w1 ⟨rfl, hw⟩
    obtain rfl := hw.symm
    go_wp2
    go_ret
    exact ⟨ret_int HE.out, rfl⟩
  · rw [if_neg h0] at hE
    have HE : Hid ((k : Int) + i + p.size = E) := hid (by rw [← hE]; simp only [Option.map_some, endI]; omega)
    clear hE
    have h0' : 0 ≤ i := by omega
    go_enter Try.func26, Try.ntmps26
    go_wp2_with fail
    refine (HI.out _ hm).mono ?_
    rintro e w1 ⟨rfl, hw⟩
    obtain rfl := hw.symm
    go_wp2
    go_ret
    exact ⟨ret_int HE.out, rfl⟩

theorem tw_stop (p : UInt8 → Bool) : ∀ (l : List UInt8) (m : Nat), (l.take m).all p = true → m ≤ l.length → (∀ h : m < l.length, p l[m] = false) → l.takeWhile p = l.take m
  | [], m, _, _, _ => by simp
  | c :: l, 0, _, _, hn => by
    have := hn (by simp)
    simp only [List.getElem_cons_zero] at this
    rw [List.takeWhile_cons, if_neg (by rw [this]; simp)]; rfl
  | c :: l, m + 1, h, hm, hn => by
    rw [List.take_succ_cons, List.all_cons, Bool.and_eq_true] at h
    rw [List.takeWhile_cons, if_pos h.1, List.take_succ_cons, tw_stop p l m h.2 (by simpa using hm) (fun h2 => by
      have := hn (by simpa using h2)
      simpa using this)]
theorem byte_of (s : ByteArray) (k : Nat) (h : k < s.size) : ∃ n : Int, ((s[k]'h).toNat : Int) = n ∧ 0 ≤ n ∧ n ≤ 255 ∧ bOf n = s[k]'h :=
  ⟨_, rfl, by omega, by have := (s[k]'h).toNat_lt; omega, bOf_cast _⟩

set_option maxRecDepth 100000 in
set_option maxHeartbeats 1600000 in
theorem lexNamed_any (s : ByteArray) (k : Nat) (w : World) (hs : s.size ≤ 1048600) (hk : k ≤ s.size) (hm : MaxAt w) :
    Calls Try.prog 23 #[.string s, .int .i64 k] w (RIntInt w (namP (s.data.toList.drop k)).1 (endI k (namP (s.data.toList.drop k)).2)) := by
  have Hm := hid hm
  have Hlen := hid (len_data s)
  clear hm
  go_enter Try.func23, Try.ntmps23
  go_wp2
  go_loop [6] (fun i => ∃ j : Nat, k ≤ j ∧ j ≤ s.size ∧ i = .int .i64 j ∧ Hid (((s.data.toList.drop k).take (j - k)).all isWordy = true)) (fun i => s.size - (intOf i).toNat)
  case atStart => exact ⟨k, Nat.le_refl _, hk, rfl, hid (by rw [Nat.sub_self]; rfl)⟩
  case round =>
    obtain ⟨j, hj, hj2, rfl, hp⟩ := hrel
    have hdl : Hid ((s.data.toList.drop k).length = s.size - k) := hid (by rw [List.length_drop, Hlen.out])
    have hdg : ∀ (h : j < s.size) (h' : j - k < (s.data.toList.drop k).length), (s.data.toList.drop k)[j - k] = s[j]'h := fun h h' => by
      rw [List.getElem_drop]
      have e : k + (j - k) = j := by omega
      simp only [e]; rfl
    have Hdg := hid hdg
    clear hdg
    have fin : ∀ (hn : ∀ h : j < s.size, isWordy (s[j]'h) = false), Hid ((s.data.toList.drop k).takeWhile isWordy = (s.data.toList.drop k).take (j - k)) := fun hn => hid (tw_stop _ _ _ hp.out (by rw [hdl.out]; omega) (fun h => by
      rw [Hdg.out (by rw [hdl.out] at h; omega) h]; exact hn _))
    by_cases hlt : j < s.size
    · obtain ⟨n, hn, hn0, hn1, hbn⟩ := byte_of s j hlt
      cases hwd : isWordy (bOf n) with
      | true =>
        have Hw := hid hwd
        have Hbn := hid hbn
        have Hl := hid (fun W => lexWordy_any n hn0 hn1 W)
        clear fin hwd hbn
        go_wp2_with fail
        refine (Hl.out _).mono ?_
        rintro e w1 ⟨rfl, rfl⟩
        rw [Hw.out]
        go_wp2
        go_round
        case rel =>
          refine ⟨j + 1, by omega, by omega, by go_num, hid ?_⟩
          have h1 : j - k < (s.data.toList.drop k).length := by rw [hdl.out]; omega
          rw [show j + 1 - k = (j - k) + 1 by omega, List.take_succ_eq_append_getElem h1, List.all_append, hp.out, Hdg.out hlt h1, ← Hbn.out]
          simp [Hw.out]
        case measure => simp [intOf]; omega
      | false =>
        have HT := fin (fun h => by rw [← hbn]; exact hwd)
        have Hw := hid hwd
        have Hbn := hid hbn
        have Hl := hid (fun W => lexWordy_any n hn0 hn1 W)
        clear fin hwd hbn
        go_wp2_with fail
        refine (Hl.out _).mono ?_
        rintro e w1 ⟨rfl, rfl⟩
        rw [Hw.out]
        go_wp2_with fail
        refine (lower_any (s.extract k j) _ (by rw [ByteArray.size_extract]; omega)).mono ?_
        rintro e w1 ⟨t, rfl, ht, hb1⟩
        have htl : Hid (t.data.toList = low ((s.data.toList.drop k).takeWhile isWordy)) := hid (by
          rw [ht.out, data_extract, HT.out, List.drop_take])
        have HW : Hid (((s.data.toList.drop k).takeWhile isWordy).length = j - k) := hid (by rw [HT.out, List.length_take, hdl.out]; omega)
        have HN : Hid ((s.data.toList.drop k)[j - k]? = some (bOf n)) := hid (by
          have h1 : j - k < (s.data.toList.drop k).length := by rw [hdl.out]; omega
          rw [List.getElem?_eq_getElem h1, Hdg.out hlt h1, Hbn.out])
        have Hm1 := hid (Hm.out.keep hb1)
        by_cases hu : t.data.toList = [117, 114, 108]
        · have hu2 : t.toList = [117, 114, 108] := by rw [ByteArray.toList_eq]; exact hu
          by_cases h40 : n = 40
          · subst h40
            have HE : Hid (namP (s.data.toList.drop k) = (4, (idxO ((s.data.toList.drop k).drop (j - k)) [41]).map (· + (j - k + 1)))) := hid (by
              unfold namP
              rw [if_pos ⟨by rw [← htl.out, hu], by rw [HW.out, HN.out]; rfl⟩, HW.out])
            have Hbe := hid (behind_any s ⟨#[41]⟩ j w1 hs hj2 (by simp [ByteArray.size]) (by simp [ByteArray.size]) Hm1.out)
            clear hu
            go_wp2_with fail
            refine Hbe.out.mono ?_
            rintro e w2 ⟨rfl, rfl⟩
            go_wp2
            go_ret2
            refine ⟨_, _, rfl, hid (by rw [HE.out]), hid ?_, hb1⟩
            rw [HE.out]
            unfold behI
            rw [endI_map, endI_map, List.drop_drop, show k + (j - k) = j by omega, show k + (j - k + 1) = j + 1 by omega]
            rfl
          · have h40b : (n == 40) = false := beq_eq_false_iff_ne.2 h40
            have HE : Hid (namP (s.data.toList.drop k) = (1, some (j - k))) := hid (by
              unfold namP
              rw [if_neg (fun h => h40 (by
                have h2 := h.2
                rw [HW.out, HN.out] at h2
                have h3 : bOf n = bOf 40 := Option.some.inj h2
                exact (bOf_eq n 40 hn0 hn1 (by omega) (by omega)).1 h3)), HW.out])
            clear hu
            go_wp2
            go_ret2
            exact ⟨_, _, rfl, hid (by rw [HE.out]), hid (by rw [HE.out]; simp only [endI]; omega), hb1⟩
        · have hu2 : (t.toList == [117, 114, 108]) = false := beq_eq_false_iff_ne.2 (by rw [ByteArray.toList_eq]; exact hu)
          have HE : Hid (namP (s.data.toList.drop k) = (1, some (j - k))) := hid (by
            unfold namP
            rw [if_neg (fun h => hu (by rw [htl.out]; exact h.1)), HW.out])
          clear hu
          go_wp2
          go_ret2
          exact ⟨_, _, rfl, hid (by rw [HE.out]), hid (by rw [HE.out]; simp only [endI]; omega), hb1⟩
    · have HT := fin (fun h => absurd h hlt)
      clear fin
      obtain rfl : j = s.size := by omega
      go_wp2_with fail
      refine (lower_any (s.extract k s.size) _ (by rw [ByteArray.size_extract]; omega)).mono ?_
      rintro e w1 ⟨t, rfl, ht, hb1⟩
      have HW : Hid (((s.data.toList.drop k).takeWhile isWordy).length = s.size - k) := hid (by rw [HT.out, List.length_take, hdl.out]; omega)
      have HE : Hid (namP (s.data.toList.drop k) = (1, some (s.size - k))) := hid (by
        unfold namP
        rw [if_neg (fun h => by
          have h2 := h.2
          rw [HW.out, List.getElem?_eq_none (by rw [hdl.out]; exact Nat.le_refl _)] at h2
          cases h2), HW.out])
      by_cases hu : t.data.toList = [117, 114, 108]
      · have hu2 : t.toList = [117, 114, 108] := by rw [ByteArray.toList_eq]; exact hu
        clear hu
        go_wp2
        go_ret2
        exact ⟨_, _, rfl, hid (by rw [HE.out]), hid (by rw [HE.out]; simp only [endI]; omega), hb1⟩
      · have hu2 : (t.toList == [117, 114, 108]) = false := beq_eq_false_iff_ne.2 (by rw [ByteArray.toList_eq]; exact hu)
        clear hu
        go_wp2
        go_ret2
        exact ⟨_, _, rfl, hid (by rw [HE.out]), hid (by rw [HE.out]; simp only [endI]; omega), hb1⟩

theorem hasPrefix_two (s : ByteArray) (k : Nat) : Lib.hasPrefix (s.data.toList.drop k) [47, 42] = [47, 42].isPrefixOf (s.data.toList.drop k) := rfl
set_option maxRecDepth 100000 in
set_option maxHeartbeats 1600000 in
theorem lexOne_any (s : ByteArray) (k : Nat) (w : World) (hs : s.size ≤ 1048600) (hk : k < s.size) (hm : MaxAt w) :
    Calls Try.prog 15 #[.string s, .int .i64 k] w (RIntInt w (oneP (s.data.toList.drop k)).1 (endI k (oneP (s.data.toList.drop k)).2)) := by
  have Hd := hid (drop_at s k hk)
  have Hnam := hid (lexNamed_any s k w hs (by omega) hm)
  have Hquo := hid (fun W => quoted_any s k W (by omega) hk)
  have Hlen := hid (len_data s)
  obtain ⟨n, hn, hn0, hn1, hbn⟩ := byte_of s k hk
  rw [← hbn] at Hd
  have Hq : Hid (quoI s k hk = endI (k + 1) (quotN (bOf n) (s.data.toList.drop (k + 1)))) := hid (by unfold quoI; rw [hbn])
  have Hl := hid (fun W => lexWordy_any n hn0 hn1 W)
  have HO := hid (oneP_cons (bOf n) (s.data.toList.drop (k + 1)))
  have hck : ∀ m : Int, 0 ≤ m → m ≤ 255 → (bOf n = bOf m ↔ n = m) := fun m h0 h1 => bOf_eq n m hn0 hn1 h0 h1
  have Hck := hid hck
  clear hbn hck
  cases hwd : isWordy (bOf n) with
  | true =>
    rw [hwd] at HO
    have Hw := hid hwd
    clear hwd
    go_enter Try.func15, Try.ntmps15
    go_wp2_with fail
    refine (Hl.out _).mono ?_
    rintro e w1 ⟨rfl, rfl⟩
    rw [Hw.out]
    go_wp2_with fail
    refine Hnam.out.mono ?_
    rintro e w1 ⟨a, b, rfl, ha, hb, hb1⟩
    go_wp2
    go_ret2
    refine ⟨_, _, rfl, hid ?_, hid ?_, hb1⟩
    · rw [ha.out, Hd.out, HO.out]; rfl
    · rw [hb.out, Hd.out, HO.out]; rfl
  | false =>
    rw [hwd] at HO
    have Hw := hid hwd
    clear hwd
    by_cases h34 : n = 34 ∨ n = 39
    · have HF : Hid (oneP (s.data.toList.drop k) = (2, (quotN (bOf n) (s.data.toList.drop (k + 1))).map (· + 1))) := hid (by
        rw [Hd.out, HO.out, if_neg (by simp), if_pos]
        rcases h34 with h | h
        · exact .inl ((Hck.out 34 (by omega) (by omega)).2 h)
        · exact .inr ((Hck.out 39 (by omega) (by omega)).2 h))
      have HF2 : Hid (endI k (oneP (s.data.toList.drop k)).2 = quoI s k hk) := hid (by rw [HF.out, Hq.out, endI_map])
      rcases h34 with rfl | rfl
      · go_enter Try.func15, Try.ntmps15
        go_wp2_with fail
        refine (Hl.out _).mono ?_
        rintro e w1 ⟨rfl, rfl⟩
        rw [Hw.out]
        go_wp2_with fail
        refine (Hquo.out _).mono ?_
        rintro e w1 ⟨rfl, rfl⟩
        go_wp2
        go_ret2
        exact ⟨_, _, rfl, hid (by rw [HF.out]), hid (by rw [HF2.out]), Below.refl _ _⟩
      · go_enter Try.func15, Try.ntmps15
        go_wp2_with fail
        refine (Hl.out _).mono ?_
        rintro e w1 ⟨rfl, rfl⟩
        rw [Hw.out]
        go_wp2_with fail
        refine (Hquo.out _).mono ?_
        rintro e w1 ⟨rfl, rfl⟩
        go_wp2
        go_ret2
        exact ⟨_, _, rfl, hid (by rw [HF.out]), hid (by rw [HF2.out]), Below.refl _ _⟩
    · have h34a : (n == 34) = false := beq_eq_false_iff_ne.2 (fun h => h34 (.inl h))
      have h39a : (n == 39) = false := beq_eq_false_iff_ne.2 (fun h => h34 (.inr h))
      have Hpre := hid (fun W => Try.strings_HasPrefix (s.extract k s.size) ⟨#[47, 42]⟩ W)
      have HP := Hpre.out
      rw [drop_extract s k (by omega)] at HP
      have HP2 : ∀ W, Calls Try.prog 25 #[.string (s.extract k s.size), .string ⟨#[47, 42]⟩] W fun e w' => e = .returned (.bool ([47, 42].isPrefixOf (s.data.toList.drop k))) ∧ w' = W := HP
      clear HP Hpre
      have hn34 : ¬ (bOf n = 34 ∨ bOf n = 39) := by
        rintro (h | h)
        · exact h34 (.inl ((Hck.out 34 (by omega) (by omega)).1 h))
        · exact h34 (.inr ((Hck.out 39 (by omega) (by omega)).1 h))
      rw [if_neg (by simp), if_neg hn34] at HO
      cases hpf : [47, 42].isPrefixOf (s.data.toList.drop k) with
      | true =>
        have hk2 : k + 2 ≤ s.size := by
          have h1 := List.isPrefixOf_iff_prefix.1 hpf
          have h2 := h1.length_le
          rw [List.length_drop, Hlen.out] at h2
          simp at h2; omega
        have HF : Hid (oneP (s.data.toList.drop k) = (3, (idxO ((s.data.toList.drop k).drop 2) [42, 47]).map (· + 4))) := hid (by
          rw [← Hd.out] at HO
          rw [HO.out, if_pos hpf])
        have HF2 : Hid (endI k (oneP (s.data.toList.drop k)).2 = behI s ⟨#[42, 47]⟩ (k + 2)) := hid (by
          rw [HF.out]
          unfold behI
          rw [endI_map, endI_map, List.drop_drop]; rfl)
        rw [hpf] at HP2
        have HP3 := hid HP2
        have Hbe := hid (behind_any s ⟨#[42, 47]⟩ (k + 2) w hs hk2 (by simp [ByteArray.size]) (by simp [ByteArray.size]) hm)
        have hc2 : ((k : Int) + 2) = ((k + 2 : Nat) : Int) := by omega
        have Hc2 := hid hc2
        clear hpf HP2 hc2
        go_enter Try.func15, Try.ntmps15
        go_wp2_with fail
        refine (Hl.out _).mono ?_
        rintro e w1 ⟨rfl, rfl⟩
        rw [Hw.out]
        go_wp2_with fail
        refine (HP3.out _).mono ?_
        rintro e w1 ⟨rfl, hw⟩
        obtain rfl := hw.symm
        go_wp2_with fail
        rw [Hc2.out]
        refine Hbe.out.mono ?_
        rintro e w1 ⟨rfl, rfl⟩
        go_wp2
        go_ret2
        exact ⟨_, _, rfl, hid (by rw [HF.out]), hid (by rw [HF2.out]), Below.refl _ _⟩
      | false =>
        have HF0 : Hid (oneP (s.data.toList.drop k) = if bOf n = 92 ∧ s.data.toList.drop (k + 1) ≠ [] then (5, some 2) else (5, some 1)) := hid (by
          rw [← Hd.out] at HO
          rw [HO.out, if_neg (by rw [hpf]; simp)])
        rw [hpf] at HP2
        have HP3 := hid HP2
        clear hpf HP2
        by_cases h92 : n = 92
        · subst h92
          by_cases hk1 : k + 1 < s.size
          · have HF : Hid (oneP (s.data.toList.drop k) = (5, some 2)) := hid (by
              rw [HF0.out, if_pos ⟨rfl, fun e => by have := congrArg List.length e; rw [List.length_drop, Hlen.out] at this; simp at this; omega⟩])
            have hk1b : (k : Int) + 1 < s.size := by omega
            go_enter Try.func15, Try.ntmps15
            go_wp2_with fail
            refine (Hl.out _).mono ?_
            rintro e w1 ⟨rfl, rfl⟩
            rw [Hw.out]
            go_wp2_with fail
            refine (HP3.out _).mono ?_
            rintro e w1 ⟨rfl, hw⟩
            obtain rfl := hw.symm
            go_wp2
            go_ret2
            exact ⟨_, _, rfl, hid (by rw [HF.out]), hid (by rw [HF.out]; rfl), Below.refl _ _⟩
          · have HF : Hid (oneP (s.data.toList.drop k) = (5, some 1)) := hid (by
              rw [HF0.out, if_neg (fun h => h.2 (List.drop_of_length_le (by rw [Hlen.out]; omega)))])
            have hk1b : ¬ (k : Int) + 1 < s.size := by omega
            go_enter Try.func15, Try.ntmps15
            go_wp2_with fail
            refine (Hl.out _).mono ?_
            rintro e w1 ⟨rfl, rfl⟩
            rw [Hw.out]
            go_wp2_with fail
            refine (HP3.out _).mono ?_
            rintro e w1 ⟨rfl, hw⟩
            obtain rfl := hw.symm
            go_wp2
            go_ret2
            exact ⟨_, _, rfl, hid (by rw [HF.out]), hid (by rw [HF.out]; rfl), Below.refl _ _⟩
        · have h92b : (n == 92) = false := beq_eq_false_iff_ne.2 h92
          have HF : Hid (oneP (s.data.toList.drop k) = (5, some 1)) := hid (by
            rw [HF0.out, if_neg (fun h => h92 ((Hck.out 92 (by omega) (by omega)).1 h.1))])
          go_enter Try.func15, Try.ntmps15
          go_wp2_with fail
          refine (Hl.out _).mono ?_
          rintro e w1 ⟨rfl, rfl⟩
          rw [Hw.out]
          go_wp2_with fail
          refine (HP3.out _).mono ?_
          rintro e w1 ⟨rfl, hw⟩
          obtain rfl := hw.symm
          go_wp2
          go_ret2
          exact ⟨_, _, rfl, hid (by rw [HF.out]), hid (by rw [HF.out]; rfl), Below.refl _ _⟩

theorem need_ok (a e : Int) (w : World) : Calls Try.prog 16 #[.bool true, .int .i64 a, .int .i64 e] w fun r w' => r = .returned (.tuple #[]) ∧ w = w' := by
  go_enter Try.func16, Try.ntmps16
  go_wp2
  go_end0
  exact ⟨rfl, rfl⟩
theorem need_bad (a e : Int) (w : World) : Calls Try.prog 16 #[.bool false, .int .i64 a, .int .i64 e] w fun r w' => r = .panicked [{ v := .iface 38 (.agg #[.int .i64 a, .int .i64 e]), recovered := false }] ∧ w = w' := by
  go_enter Try.func16, Try.ntmps16
  go_wp2
  exact ⟨rfl, rfl, rfl⟩
end Go.Proofs.Ytkfijdccemblmaa
