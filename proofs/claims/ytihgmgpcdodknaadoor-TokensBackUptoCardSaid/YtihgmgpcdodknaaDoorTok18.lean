import Derived.Test.YtihgmgpcdodknaaDoorTok12
import Derived.Test.YtihgmgpcdodknaaDoorTok14
import Derived.Test.YtihgmgpcdodknaaDoorTok15
set_option linter.unusedVariables false
/- The reader's bogus, opens. -/
namespace Go.Proofs.YtihgmgpcdodknaaDoor
open Go.RowKit

def PB (base R : Nat) (s : ByteArray) (V : Value) (L : List Tk) (w : World) (r : List UInt8) (e : Ending) (w' : World) : Prop :=
  e = .returned (.tuple #[]) ∧ ∃ k', k' ≤ s.size ∧ s.data.toList.drop k' = r ∧ Rd w' base R s k' V L ∧ Fr R none none w w'
set_option maxRecDepth 100000 in
set_option maxHeartbeats 1600000 in
theorem bogus_any (base R : Nat) (s : ByteArray) (k : Nat) (V : Value) (L : List Tk) (w : World) (hs : s.size ≤ 65536) (hk : k ≤ s.size) (h : Rd w base R s k V L) :
    Calls Tryd.prog 83 #[.pointer (some ⟨R, 0, none⟩)] w (PB base R s V L w (bogusS (s.data.toList.drop k))) := by
  have H := hid h
  have c0 := h.c0
  have c1 := h.c1
  have f1 := h.fz 1
  obtain ⟨res, hres⟩ : ∃ res, bogusS (s.data.toList.drop k) = res := ⟨_, rfl⟩
  rw [hres]
  have Hres := hid hres
  have hk0 : (0 : Int) ≤ (k : Int) := by omega
  have hk1 : (k : Int) ≤ (s.size : Int) := by omega
  have Hix := hid (fun W => Tryd.strings_IndexByte (s.extract k s.size) 62 W)
  obtain ⟨i, hii⟩ : ∃ i, Lib.indexByte (s.data.toList.drop k) 62 = i := ⟨_, rfl⟩
  have he : Lib.indexByte (s.extract k s.size).data.toList (62 : Int).toNat.toUInt8 = i := by rw [data_extract, take_all]; exact hii
  rw [he] at Hix
  have Hii := hid hii
  clear h hres he hii
  by_cases hi : i < 0
  · have hid1 : decide (i < 0) = true := decide_eq_true hi
    go_enter Tryd.func83, Tryd.ntmps83
    go_wp2_with (go_quiet ((go_at_call 67; exact Calls.quiet_of_same (Hix.out _))))
    go_end0
    refine ⟨rfl, s.size, Nat.le_refl _, ?_, (rd_drewN H.out _).atI s.size (by omega), ((Fr.refl _ _ _).drewN _).trans (Fr.setR 1 _)⟩
    rw [← Hres.out, List.drop_of_length_le (by rw [len_data]; exact Nat.le_refl _)]
    unfold bogusS
    rw [Hii.out, if_pos hi]
  · obtain ⟨j, rfl⟩ : ∃ j : Nat, i = (j : Int) := ⟨i.toNat, by omega⟩
    have hlt := idx_lt _ _ _ Hii.out
    rw [List.length_drop, len_data] at hlt
    have hid1 : decide ((j : Int) < 0) = false := decide_eq_false hi
    go_enter Tryd.func83, Tryd.ntmps83
    go_wp2_with (go_quiet ((go_at_call 67; exact Calls.quiet_of_same (Hix.out _))))
    go_end0
    refine ⟨rfl, k + j + 1, by omega, ?_, (rd_drewN H.out _).atI (k + j + 1) (by omega), ((Fr.refl _ _ _).drewN _).trans (Fr.setR 1 _)⟩
    rw [← Hres.out]
    unfold bogusS
    rw [Hii.out, if_neg (by omega), Int.toNat_natCast, List.drop_drop]
    congr 1

theorem str_nil_ne (t : ByteArray) (h : t.size ≠ 0) : (t.toList == []) = false := by
  rw [ByteArray.toList_eq, beq_eq_false_iff_ne]
  intro e
  exact h (by rw [← len_data, e]; rfl)
theorem opensB_47 (r : List UInt8) (h : r ≠ []) : opensB (47 :: r) = true := by
  show (if (47 : UInt8) = 47 ∧ r = [] then false else _) = true
  rw [if_neg (fun e => h e.2)]; rfl
theorem opensB_c (c : UInt8) (r : List UInt8) (h : c ≠ 47) : opensB (c :: r) = (c == 33 || c == 63 || isLetter c) := by
  show (if c = 47 ∧ r = [] then false else _) = _
  rw [if_neg (fun e => h e.1), show (c == 47) = false by simpa using h]
  rfl
set_option maxRecDepth 100000 in
set_option maxHeartbeats 1600000 in
theorem opens_any (base R : Nat) (s : ByteArray) (k : Nat) (V : Value) (L : List Tk) (i : Nat) (w : World) (hs : s.size ≤ 65536) (hi : i < s.size) (h : Rd w base R s k V L) :
    Calls Tryd.prog 51 #[.pointer (some ⟨R, 0, none⟩), .int .i64 (i : Int)] w fun e w' => e = .returned (.bool (opensB (s.data.toList.drop (i + 1)))) ∧ w' = w := by
  have c0 := h.c0
  obtain ⟨res, hres⟩ : ∃ res, opensB (s.data.toList.drop (i + 1)) = res := ⟨_, rfl⟩
  rw [hres]
  have Hres := hid hres
  obtain ⟨p, hp⟩ : ∃ p, i + 1 = p := ⟨_, rfl⟩
  rw [hp] at Hres
  have hp1 : (i : Int) + 1 = (p : Int) := by omega
  have hp2 : p ≤ s.size := by omega
  have hp3 : (p : Int) ≤ (s.size : Int) := by omega
  have hp4 : (0 : Int) ≤ (p : Int) := by omega
  clear h hres hp
  obtain ⟨t, ht⟩ : ∃ t, s.extract p s.size = t := ⟨_, rfl⟩
  have Ht : Hid (t.data.toList = s.data.toList.drop p) := hid (by rw [← ht, data_extract, take_all])
  have hts : t.size = s.size - p := by rw [← len_data, Ht.out, List.length_drop, len_data]
  by_cases h0 : p = s.size
  · have ht0 : t = ⟨#[]⟩ := empty_of (by omega)
    subst ht0
    go_enter Tryd.func51, Tryd.ntmps51
    go_wp2
    go_ret
    refine ⟨?_, rfl⟩
    rw [show res = false from by rw [← Hres.out, ← Ht.out]; rfl] <;> rfl
  · have hlt0 : 0 < t.size := by omega
    obtain ⟨n, hn, hn0, hn1, hbn⟩ := byteOf t 0 hlt0
    have Hcons : Hid (t.data.toList = bOf n :: t.data.toList.drop 1) := hid (by have := dropAt t 0 hlt0; rw [List.drop_zero, ← hbn] at this; exact this)
    have hts0 : (0 : Int) < (t.size : Int) := by omega
    have hl := str_nil_ne t (by omega)
    by_cases h47 : n = 47
    · subst h47
      by_cases h1 : t.size = 1
      · have hq : (t.toList == [47]) = true := by
          rw [ByteArray.toList_eq, Hcons.out, List.drop_of_length_le (by rw [len_data]; omega)]; rfl
        go_enter Tryd.func51, Tryd.ntmps51
        go_wp2
        go_ret
        refine ⟨?_, rfl⟩
        rw [show res = false from by rw [← Hres.out, ← Ht.out, Hcons.out, List.drop_of_length_le (by rw [len_data]; omega)]; rfl] <;> rfl
      · have hq : (t.toList == [47]) = false := by
          rw [ByteArray.toList_eq, beq_eq_false_iff_ne]
          intro e
          have := congrArg List.length e
          rw [len_data] at this
          exact h1 this
        go_enter Tryd.func51, Tryd.ntmps51
        go_wp2
        go_ret
        refine ⟨?_, rfl⟩
        rw [show res = true from by rw [← Hres.out, ← Ht.out, Hcons.out]; exact opensB_47 _ (fun e => by have := congrArg List.length e; rw [List.length_drop, len_data] at this; simp at this; omega)] <;> rfl
    · have hq : (t.toList == [47]) = false := by
        rw [ByteArray.toList_eq, Hcons.out, beq_eq_false_iff_ne]
        intro e
        injection e with e1 e2
        exact bOf_no n hn0 hn1 47 47 rfl h47 e1
      have h47b : (n == 47) = false := beq_eq_false_iff_ne.2 h47
      have Hr := hid (show res = (bOf n == 33 || bOf n == 63 || isLetter (bOf n)) from by rw [← Hres.out, ← Ht.out, Hcons.out]; exact opensB_c _ _ (bOf_no n hn0 hn1 47 47 rfl h47))
      by_cases h33 : n = 33
      · subst h33
        go_enter Tryd.func51, Tryd.ntmps51
        go_wp2
        go_ret
        refine ⟨?_, rfl⟩
        rw [show res = true from by rw [Hr.out]; rfl] <;> rfl
      · have h33b : (n == 33) = false := beq_eq_false_iff_ne.2 h33
        by_cases h63 : n = 63
        · subst h63
          go_enter Tryd.func51, Tryd.ntmps51
          go_wp2
          go_ret
          refine ⟨?_, rfl⟩
          rw [show res = true from by rw [Hr.out]; rfl] <;> rfl
        · have h63b : (n == 63) = false := beq_eq_false_iff_ne.2 h63
          have Hl := hid (fun W => letter_any n hn0 hn1 W)
          have e1 := bOf_no n hn0 hn1 33 33 rfl h33
          have e2 := bOf_no n hn0 hn1 63 63 rfl h63
          have Hr2 : Hid (res = isLetter (bOf n)) := hid (by rw [Hr.out]; simp [e1, e2])
          clear e1 e2
          go_enter Tryd.func51, Tryd.ntmps51
          go_wp2_with (go_at_call 79; refine (Hl.out _).mono ?_; rintro e2 w2 ⟨rfl, hw2⟩; obtain rfl := hw2)
          go_ret
          refine ⟨?_, rfl⟩
          rw [Hr2.out, hbn] <;> rfl
end Go.Proofs.YtihgmgpcdodknaaDoor
/- The reader's bang. -/
namespace Go.Proofs.YtihgmgpcdodknaaDoor
open Go.RowKit

def BP (base R : Nat) (s : ByteArray) (V : Value) (w : World) (o : Option (List Tk × List UInt8)) (e : Ending) (w' : World) : Prop :=
  match o with
  | none => e = .panicked [{ v := .iface 24 (.int .i64 3), recovered := false }] ∧ ∃ row, Fr R V.ownBlock row w w'
  | some (L', r) => e = .returned (.tuple #[]) ∧ ∃ V' k', k' ≤ s.size ∧ s.data.toList.drop k' = r ∧ Rd w' base R s k' V' L' ∧ Fr R V.ownBlock V'.ownBlock w w'
theorem below_same {w W : World} (h : W.heap = w.heap) (h1 : W.os = w.os) (h2 : W.tape = w.tape) (h3 : W.output = w.output) : Below w.heap.size w W := ⟨h1, h2, h3, by rw [h]; exact Nat.le_refl _, fun _ _ => by rw [h]⟩
theorem Fr.fromN {R : Nat} {a b : Option Nat} {w w2 : World} {n : Nat} (h : Fr R a b (w.drewN n) w2) : Fr R a b w w2 := ((Fr.refl R a w).drewN n).trans h
theorem maxAt_drewN {w : World} (h : MaxAt w) (n : Nat) : MaxAt (w.drewN n) := h
theorem idx_room : ∀ (l : List UInt8) (j : Nat), Lib.index l [45, 45, 62] = (j : Int) → j + 3 ≤ l.length
  | [], j, h => by
    have h1 : (-1 : Int) = (j : Int) := h
    omega
  | b :: l, j, h => by
    rw [Lib.index] at h
    split at h
    · rename_i hp
      have := (List.isPrefixOf_iff_prefix.1 hp).length_le
      simp only [List.length_cons, List.length_nil] at this ⊢
      omega
    · split at h
      · omega
      · rename_i h1 h2
        have hg := Lib.index_ge l [45, 45, 62]
        have hne : Lib.index l [45, 45, 62] ≠ -1 := by simpa using h2
        have := idx_room l (Lib.index l [45, 45, 62]).toNat (by omega)
        simp only [List.length_cons]
        omega
theorem cut_yes (l : List UInt8) (h : ¬ Lib.index l [45, 45, 62] < 0) : Lib.cut l [45, 45, 62] = (l.take (Lib.index l [45, 45, 62]).toNat, l.drop ((Lib.index l [45, 45, 62]).toNat + 3), true) := by
  unfold Lib.cut; rw [if_pos (by omega)]; rfl
theorem cut_no (l : List UInt8) (h : Lib.index l [45, 45, 62] < 0) : Lib.cut l [45, 45, 62] = (l, [], false) := by
  unfold Lib.cut; rw [if_neg (by omega)]
set_option maxRecDepth 100000 in
set_option maxHeartbeats 3200000 in
theorem bang_any (base R : Nat) (s : ByteArray) (k : Nat) (V : Value) (L : List Tk) (w : World) (hs : s.size ≤ 65536) (hk : k ≤ s.size) (hL : L.length ≤ 4096) (h : Rd w base R s k V L) (hM : MaxAt w) :
    Calls Tryd.prog 82 #[.pointer (some ⟨R, 0, none⟩)] w (BP base R s V w (bangS (s.data.toList.drop k) L)) := by
  have H := hid h
  have HL := hid hL
  have HM := hid hM
  have c0 := h.c0
  have c1 := h.c1
  obtain ⟨res, hres⟩ : ∃ res, bangS (s.data.toList.drop k) L = res := ⟨_, rfl⟩
  rw [hres]
  have Hres := hid hres
  have hk0 : (0 : Int) ≤ (k : Int) := by omega
  have hk1 : (k : Int) ≤ (s.size : Int) := by omega
  have Hhp := hid (fun W => Tryd.strings_HasPrefix (s.extract k s.size) ⟨#[45, 45]⟩ W)
  obtain ⟨b, hb⟩ : ∃ b, [45, 45].isPrefixOf (s.data.toList.drop k) = b := ⟨_, rfl⟩
  have he : Lib.hasPrefix (s.extract k s.size).data.toList (⟨#[45, 45]⟩ : ByteArray).data.toList = b := by rw [data_extract, take_all]; exact hb
  rw [he] at Hhp
  have Hb := hid hb
  clear h hL hM hres he hb
  cases b with
  | false =>
    have Hr := hid (show res = some (L, bogusS (s.data.toList.drop k)) from by rw [← Hres.out]; unfold bangS; rw [Hb.out]; rfl)
    have Hbo := hid (fun n => bogus_any base R s k V L (w.drewN n) hs hk (rd_drewN H.out n))
    go_enter Tryd.func82, Tryd.ntmps82
    go_wp2_with (go_quiet ((go_at_call 73; exact Calls.quiet_of_same (Hhp.out _))))
    refine (Hbo.out _).mono ?_
    rintro e w1 ⟨rfl, k', hk', hr, hRd, hF⟩
    go_wp2
    go_end0
    rw [Hr.out]
    exact ⟨rfl, V, k', hk', hr, hRd, ((((Fr.refl R none w).drewN _).trans hF).wk _)⟩
  | true =>
    have hlen : 2 ≤ (s.data.toList.drop k).length := by
      have := (List.isPrefixOf_iff_prefix.1 Hb.out).length_le
      simpa using this
    rw [List.length_drop, len_data] at hlen
    obtain ⟨p, hp⟩ : ∃ p, k + 2 = p := ⟨_, rfl⟩
    have hp1 : (k : Int) + 2 = (p : Int) := by omega
    have hp2 : p ≤ s.size := by omega
    have hp3 : (p : Int) ≤ (s.size : Int) := by omega
    have hp4 : (0 : Int) ≤ (p : Int) := by omega
    have Hdp : Hid ((s.data.toList.drop k).drop 2 = s.data.toList.drop p) := hid (by rw [List.drop_drop, hp])
    have Hcu := hid (fun W (hMW : MaxAt W) => (hMW.elim fun m hm => Tryd.strings_Cut (s.extract p s.size) ⟨#[45, 45, 62]⟩ m W (by rw [ByteArray.size_extract]; omega) hm : Calls Tryd.prog 105 #[.string (s.extract p s.size), .string ⟨#[45, 45, 62]⟩] W fun e w' => e = .returned (.tuple #[.string ⟨(Lib.cut (s.extract p s.size).data.toList (⟨#[45, 45, 62]⟩ : ByteArray).data.toList).1.toArray⟩, .string ⟨(Lib.cut (s.extract p s.size).data.toList (⟨#[45, 45, 62]⟩ : ByteArray).data.toList).2.1.toArray⟩, .bool (Lib.cut (s.extract p s.size).data.toList (⟨#[45, 45, 62]⟩ : ByteArray).data.toList).2.2]) ∧ ∃ m, w' = W.drewN m))
    have hw2 : IntKind.i64.wrap ((k : Int) + 2) = (p : Int) := by rw [hp1]; exact IntWalk.i64_in _ (by omega)
    clear hp1
    rw [data_extract, take_all, show (⟨#[45, 45, 62]⟩ : ByteArray).data.toList = [45, 45, 62] from rfl] at Hcu
    obtain ⟨t, ht⟩ : ∃ t : ByteArray, (⟨(Lib.cut (s.data.toList.drop p) [45, 45, 62]).1.toArray⟩ : ByteArray) = t := ⟨_, rfl⟩
    obtain ⟨rs, hrs⟩ : ∃ t : ByteArray, (⟨(Lib.cut (s.data.toList.drop p) [45, 45, 62]).2.1.toArray⟩ : ByteArray) = t := ⟨_, rfl⟩
    rw [ht, hrs] at Hcu
    have Ht : Hid (t = bs (Lib.cut (s.data.toList.drop p) [45, 45, 62]).1) := hid ht.symm
    have Hrs : Hid (rs = bs (Lib.cut (s.data.toList.drop p) [45, 45, 62]).2.1) := hid hrs.symm
    obtain ⟨o, ho⟩ : ∃ o, tellS ⟨4, [], (Lib.cut (s.data.toList.drop p) [45, 45, 62]).1, [], false⟩ L = o := ⟨_, rfl⟩
    have HK := hid (fun (W : World) (hW : Rd W base R s k V L) => (by
      have := tell_any base R s k V L ⟨4, [], (Lib.cut (s.data.toList.drop p) [45, 45, 62]).1, [], false⟩ (.slice none 0 0) W HL.out hW (OwnA.nil _ _)
      rw [ho] at this
      simp only at this
      rw [← Ht.out] at this
      exact this : Calls Tryd.prog 80 #[.pointer (some ⟨R, 0, none⟩), .agg #[.int .i64 4, .string ⟨#[]⟩, .string t, .slice none 0 0, .bool false]] W (RT base R s V W k o)))
    by_cases hix : Lib.index (s.data.toList.drop p) [45, 45, 62] < 0
    · have Hr := hid (show res = o.map (·, []) from by
        rw [← Hres.out]
        unfold bangS
        rw [if_pos Hb.out, Hdp.out, if_pos hix, ← ho, cut_no _ hix])
      simp only [cut_no _ hix] at Hcu
      clear ho ht hrs hix hp
      go_enter Tryd.func82, Tryd.ntmps82
      go_wp2_with (go_quiet ((go_at_call 73; exact Calls.quiet_of_same (Hhp.out _))))
      refine wp_region_noPanic ?_
      go_region_law ((go_simp; go_at_call 105; refine (Hcu.out _ (maxAt_drewN HM.out _)).mono ?_; rintro e w1 ⟨rfl, nn, rfl⟩; dsimp only))
      all_goals
       refine NoPanic.normal ?_
       go_wp2_with fail
       refine (HK.out _ ?_).mono ?_
       · exact H.out.keep (below_same rfl rfl rfl rfl)
       intro e w2 hRT
       cases o with
       | none =>
        obtain ⟨rfl, row, hfr⟩ := hRT
        go_wp2
        rw [Hr.out]
        exact ⟨rfl, rfl, row, hfr.fromN⟩
       | some L' =>
        obtain ⟨rfl, V', h3, h4⟩ := hRT
        have q0 := h3.c0
        have q1 := h3.c1
        have p1 := h3.fz 1
        have H3 := hid h3
        have H4 := hid h4.fromN
        clear h3 h4
        go_wp2
        go_end0
        rw [Hr.out]
        exact ⟨rfl, V', s.size, Nat.le_refl _, List.drop_of_length_le (by rw [len_data]; exact Nat.le_refl _), H3.out.atI s.size (by omega), H4.out.trans (Fr.setR 1 _)⟩
    · obtain ⟨j, hj⟩ : ∃ j : Nat, Lib.index (s.data.toList.drop p) [45, 45, 62] = (j : Int) := ⟨(Lib.index (s.data.toList.drop p) [45, 45, 62]).toNat, by omega⟩
      have hc := cut_yes _ hix
      rw [hj, Int.toNat_natCast] at hc
      have hjl : j + 3 ≤ s.size - p := by
        have := idx_room (s.data.toList.drop p) j hj
        rw [List.length_drop, len_data] at this
        omega
      have Hr := hid (show res = o.map (·, s.data.toList.drop (p + j + 3)) from by
        rw [← Hres.out]
        unfold bangS
        rw [if_pos Hb.out, Hdp.out, if_neg hix, ← ho, hc, hj, Int.toNat_natCast, List.drop_drop]
        simp only
        congr 3)
      have hrz : rs.size = s.size - p - (j + 3) := by
        rw [Hrs.out, hc]
        simp only
        rw [← len_data, bs_list, List.length_drop, List.length_drop, len_data]
      simp only [hc] at Hcu
      have hrz2 : (s.size : Int) - (rs.size : Int) = ((p + j + 3 : Nat) : Int) := by omega
      clear ho ht hrs hix hp hc hj
      go_enter Tryd.func82, Tryd.ntmps82
      go_wp2_with (go_quiet ((go_at_call 73; exact Calls.quiet_of_same (Hhp.out _))))
      refine wp_region_noPanic ?_
      go_region_law ((go_simp; go_at_call 105; refine (Hcu.out _ (maxAt_drewN HM.out _)).mono ?_; rintro e w1 ⟨rfl, nn, rfl⟩; dsimp only))
      all_goals
       refine NoPanic.normal ?_
       go_wp2_with fail
       refine (HK.out _ ?_).mono ?_
       · exact H.out.keep (below_same rfl rfl rfl rfl)
       intro e w2 hRT
       cases o with
       | none =>
        obtain ⟨rfl, row, hfr⟩ := hRT
        go_wp2
        rw [Hr.out]
        exact ⟨rfl, rfl, row, hfr.fromN⟩
       | some L' =>
        obtain ⟨rfl, V', h3, h4⟩ := hRT
        have q0 := h3.c0
        have q1 := h3.c1
        have p1 := h3.fz 1
        have H3 := hid h3
        have H4 := hid h4.fromN
        clear h3 h4
        go_wp2
        go_end0
        rw [Hr.out]
        exact ⟨rfl, V', p + j + 3, by omega, rfl, H3.out.atI (p + j + 3) (by omega), H4.out.trans (Fr.setR 1 _)⟩
end Go.Proofs.YtihgmgpcdodknaaDoor
/- The reader's markup. -/
namespace Go.Proofs.YtihgmgpcdodknaaDoor
open Go.RowKit

theorem maxAt_setR {w : World} {R : Nat} (h : MaxAt w) (hR : 2 ≠ R) (j : Nat) (v : Value) : MaxAt (w.setCell ⟨R, j, none⟩ v) := by
  obtain ⟨m, h⟩ := h
  exact ⟨m, (World.cell?_setCell_other w _ _ v (fun e => hR (by injection e with e; exact e.symm))).trans h⟩
set_option maxRecDepth 100000 in
set_option maxHeartbeats 1600000 in
theorem markup_any (base R : Nat) (s : ByteArray) (k : Nat) (V : Value) (L : List Tk) (w : World) (hs : s.size ≤ 65536) (hk : k < s.size) (hL : L.length ≤ 4096) (h : Rd w base R s k V L) (hM : MaxAt w) (hR0 : 2 ≠ R)
    (ho : opensB (s.data.toList.drop (k + 1)) = true) :
    Calls Tryd.prog 53 #[.pointer (some ⟨R, 0, none⟩)] w (RB base R s V w (markS (s.data.toList.drop k) L)) := by
  have H := hid h
  have HLn := hid hL
  have HM := hid hM
  have c0 := h.c0
  have c1 := h.c1
  have f1 := h.fz 1
  have hp1 : k + 1 < s.size := by
    rcases Nat.lt_or_ge (k + 1) s.size with h1 | h1
    · exact h1
    · rw [List.drop_of_length_le (by rw [len_data]; exact h1)] at ho; cases ho
  obtain ⟨n, hn, hn0, hn1, hbn⟩ := byteOf s (k + 1) hp1
  have Hd0 := hid (dropAt s k hk)
  have Hd1 := hid (dropAt s (k + 1) hp1)
  rw [← hbn] at Hd1
  have Ho : Hid (opensB (bOf n :: s.data.toList.drop (k + 2)) = true) := hid (by rw [← Hd1.out]; exact ho)
  obtain ⟨res, hres⟩ : ∃ res, markS (s.data.toList.drop k) L = res := ⟨_, rfl⟩
  rw [hres]
  rw [Hd0.out, Hd1.out, markS_cons] at hres
  have Hres := hid hres
  have HTs := hid (fun (W : World) (h1 : Rd W base R s (k + 1) V L) => tagS_any base R s (k + 1) V L W hs (by omega) HLn.out h1)
  have HTe := hid (fun (W : World) (hl : k + 2 ≤ s.size) (h1 : Rd W base R s (k + 2) V L) => tagE_any base R s (k + 2) V L W hs hl HLn.out h1)
  have HBo := hid (fun (W : World) (q : Nat) (hl : q ≤ s.size) (h1 : Rd W base R s q V L) => bogus_any base R s q V L W hs hl h1)
  have HBa := hid (fun (W : World) (hl : k + 2 ≤ s.size) (h1 : Rd W base R s (k + 2) V L) (h2 : MaxAt W) => bang_any base R s (k + 2) V L W hs hl HLn.out h1 h2)
  obtain ⟨p, hp⟩ : ∃ p, k + 1 = p := ⟨_, rfl⟩
  have hpi : (k : Int) + 1 = (p : Int) := by omega
  have hwp : IntKind.i64.wrap ((k : Int) + 1) = (p : Int) := by rw [hpi]; exact IntWalk.i64_in _ (by omega)
  have hq0 : (0 : Int) ≤ (p : Int) := by omega
  have hq1 : (p : Int) < (s.size : Int) := by omega
  have hq2 : p < s.size := by omega
  have hbp : (s[p]'hq2).toNat = n := by subst hp; exact hn
  obtain ⟨lt, hlt⟩ : ∃ lt, isLetter (bOf n) = lt := ⟨_, rfl⟩
  have HL1 := hid (fun W => letter_any n hn0 hn1 W)
  rw [hlt] at HL1
  have Hlt := hid hlt
  have HR1 := hid (H.out.atI (i := (p : Int)) (k + 1) (by omega))
  have HF1 := hid (Fr.setR (R := R) (a := none) (w := w) 1 (.int .i64 (p : Int)))
  have HM1 := hid (maxAt_setR HM.out hR0 1 (.int .i64 (p : Int)))
  have Hp := hid hp
  clear h hL hM hres ho hlt hbn hn hp hpi
  cases lt with
  | true =>
    have Hc : Hid (res = tagS (s.data.toList.drop (k + 1)) L) := hid (by rw [← Hres.out, if_pos Hlt.out, Hd1.out])
    go_enter Tryd.func53, Tryd.ntmps53
    go_wp2_with (first
      | (go_at_call 79; (with_reducible refine (HL1.out _).mono ?_); rintro e2 w2 ⟨rfl, hw2⟩; obtain rfl := hw2)
      | (go_quiet (fail)))
    refine (HTs.out _ ?_).mono ?_
    · exact rd_drewN HR1.out _
    intro e w4 hRB
    have hRB2 := RB.after (w := w) (V := V) ?fr hRB
    case fr => exact (HF1.out.drewN _).wk _
    clear hRB
    rw [← Hc.out] at hRB2
    cases res with
    | none =>
      obtain ⟨rfl, row, hfr⟩ := hRB2
      go_wp2
      exact ⟨rfl, rfl, row, hfr⟩
    | some q =>
      obtain ⟨b2, L2, r2⟩ := q
      obtain ⟨rfl, V2, k2, g1, g2, g3, g4⟩ := hRB2
      go_wp2
      go_ret
      exact ⟨rfl, V2, k2, g1, g2, g3, g4⟩
  | false =>
    have Hres2 := hid Hres.out
    rw [if_neg (by rw [Hlt.out]; decide)] at Hres2
    obtain ⟨q, hq⟩ : ∃ q, p + 1 = q := ⟨_, rfl⟩
    have Hq : Hid (q = k + 2) := hid (by have := Hp.out; omega)
    have hwq : IntKind.i64.wrap ((p : Int) + 1) = (q : Int) := by rw [show (p : Int) + 1 = (q : Int) from by omega]; exact IntWalk.i64_in _ (by omega)
    clear hq
    by_cases h33 : n = 33
    · subst h33
      obtain ⟨o, ho⟩ : ∃ o, bangS (s.data.toList.drop (k + 2)) L = o := ⟨_, rfl⟩
      have Hc : Hid (res = o.map fun p => (true, p.1, p.2)) := hid (by rw [← Hres2.out, ← ho]; rfl)
      rw [ho] at HBa
      clear ho
      go_enter Tryd.func53, Tryd.ntmps53
      go_wp2_with (first
        | (go_at_call 79; (with_reducible refine (HL1.out _).mono ?_); rintro e2 w2 ⟨rfl, hw2⟩; obtain rfl := hw2)
        | (go_quiet (fail)))
      refine (HBa.out _ (by omega) ?_ ?_).mono ?_
      · exact (rd_drewN HR1.out _).atI (k + 2) (by have := Hq.out; omega)
      · exact maxAt_setR (maxAt_drewN HM1.out _) hR0 1 _
      intro e w4 hBP
      cases o with
      | none =>
        obtain ⟨rfl, row, hfr⟩ := hBP
        go_wp2
        rw [Hc.out]
        exact ⟨rfl, rfl, row, ((((HF1.out.drewN _).trans (Fr.setR 1 _))).wk _).trans hfr⟩
      | some pr =>
        obtain ⟨L', r⟩ := pr
        obtain ⟨rfl, V', k', g1, g2, g3, g4⟩ := hBP
        go_wp2
        go_ret
        rw [Hc.out]
        exact ⟨rfl, V', k', g1, fun _ => g2, g3, ((((HF1.out.drewN _).trans (Fr.setR 1 _))).wk _).trans g4⟩
    · have h33b : (n == 33) = false := beq_eq_false_iff_ne.2 h33
      have e33 := bOf_no n hn0 hn1 33 33 rfl h33
      have Hres3 := hid Hres2.out
      rw [if_neg e33] at Hres3
      by_cases h63 : n = 63
      · subst h63
        have Hc : Hid (res = some (true, L, bogusS (s.data.toList.drop (k + 1)))) := hid (by rw [← Hres3.out, Hd1.out]; rfl)
        clear e33
        go_enter Tryd.func53, Tryd.ntmps53
        go_wp2_with (first
          | (go_at_call 79; (with_reducible refine (HL1.out _).mono ?_); rintro e2 w2 ⟨rfl, hw2⟩; obtain rfl := hw2)
          | (go_quiet (fail)))
        refine (HBo.out _ (k + 1) ?pl ?_).mono ?_
        case pl => omega
        · exact rd_drewN HR1.out _
        rintro e w4 ⟨rfl, k', hk', hr', hRd', hF'⟩
        go_wp2
        go_ret
        rw [Hc.out]
        exact ⟨rfl, V, k', hk', fun _ => hr', hRd', ((HF1.out.drewN _).trans hF').wk _⟩
      · have h63b : (n == 63) = false := beq_eq_false_iff_ne.2 h63
        have e63 := bOf_no n hn0 hn1 63 63 rfl h63
        have Hres4 := hid Hres3.out
        rw [if_neg e63] at Hres4
        have h47 : n = 47 := Decidable.byContradiction fun h => by
          have e47 := bOf_no n hn0 hn1 47 47 rfl h
          have := Ho.out
          rw [opensB_c _ _ e47, Hlt.out] at this
          simp [e33, e63] at this
        subst h47
        clear e33 e63
        have hq3 : k + 2 < s.size := by
          rcases Nat.lt_or_ge (k + 2) s.size with h1 | h1
          · exact h1
          · have := Ho.out
            rw [List.drop_of_length_le (by rw [len_data]; exact h1)] at this
            cases this
        obtain ⟨n2, hn', hn0', hn1', hbn'⟩ := byteOf s (k + 2) hq3
        have Hd2 := hid (dropAt s (k + 2) hq3)
        rw [← hbn'] at Hd2
        rw [Hd2.out] at Hres4
        obtain ⟨lt2, hlt2⟩ : ∃ lt, isLetter (bOf n2) = lt := ⟨_, rfl⟩
        have HL2 := hid (fun W => letter_any n2 hn0' hn1' W)
        rw [hlt2] at HL2
        have Hlt2 := hid hlt2
        have hq4 : (0 : Int) ≤ (q : Int) := by omega
        have Hq2 := Hq.out
        have hq5 : (q : Int) < (s.size : Int) := by omega
        have hq6 : q < s.size := by omega
        have hbq : (s[q]'hq6).toNat = n2 := by subst Hq2; exact hn'
        clear hn' hbn' hlt2 Hq2
        cases lt2 with
        | true =>
          have Hc : Hid (res = tagE (s.data.toList.drop (k + 2)) L) := hid (by rw [← Hres4.out, Hd2.out]; exact if_pos Hlt2.out)
          have HTe2 := hid (fun (W : World) (h1 : Rd W base R s (k + 2) V L) => HTe.out W (by omega) h1)
          go_enter Tryd.func53, Tryd.ntmps53
          go_wp2_with (first
            | (go_at_call 79; (with_reducible refine (HL1.out _).mono ?_); rintro e2 w2 ⟨rfl, hw2⟩; obtain rfl := hw2)
            | (go_at_call 79; (with_reducible refine (HL2.out _).mono ?_); rintro e2 w2 ⟨rfl, hw2⟩; obtain rfl := hw2)
            | (go_quiet (fail)))
          refine (HTe2.out _ ?_).mono ?_
          · exact rd_drewN ((rd_drewN HR1.out _).atI (k + 2) (by have := Hq.out; omega)) _
          intro e w4 hRB
          have hRB2 := RB.after (w := w) (V := V) ?fr hRB
          case fr => exact (((HF1.out.drewN _).trans (Fr.setR 1 _)).drewN _).wk _
          clear hRB
          rw [← Hc.out] at hRB2
          cases res with
          | none =>
            obtain ⟨rfl, row, hfr⟩ := hRB2
            go_wp2
            exact ⟨rfl, rfl, row, hfr⟩
          | some q =>
            obtain ⟨b2, L2, r2⟩ := q
            obtain ⟨rfl, V2, k2, g1, g2, g3, g4⟩ := hRB2
            go_wp2
            go_ret
            exact ⟨rfl, V2, k2, g1, g2, g3, g4⟩
        | false =>
          have Hres5 := hid (Hres4.out)
          have Hres6 : Hid ((if bOf n2 = 62 then some (true, L, s.data.toList.drop (k + 2 + 1)) else some (true, L, bogusS (bOf n2 :: s.data.toList.drop (k + 2 + 1)))) = res) := hid (by rw [← Hres5.out]; exact (if_neg (by rw [Hlt2.out]; decide)).symm)
          by_cases h62 : n2 = 62
          · subst h62
            have Hc : Hid (res = some (true, L, s.data.toList.drop (k + 2 + 1))) := hid (by rw [← Hres6.out]; rfl)
            obtain ⟨q3, hq7⟩ : ∃ q3, q + 1 = q3 := ⟨_, rfl⟩
            have Hq3 : Hid (q3 = k + 2 + 1) := hid (by have := Hq.out; omega)
            have hwq3 : IntKind.i64.wrap ((q : Int) + 1) = (q3 : Int) := by rw [show (q : Int) + 1 = (q3 : Int) from by omega]; exact IntWalk.i64_in _ (by omega)
            clear hq7
            go_enter Tryd.func53, Tryd.ntmps53
            go_wp2_with (first
              | (go_at_call 79; (with_reducible refine (HL1.out _).mono ?_); rintro e2 w2 ⟨rfl, hw2⟩; obtain rfl := hw2)
              | (go_at_call 79; (with_reducible refine (HL2.out _).mono ?_); rintro e2 w2 ⟨rfl, hw2⟩; obtain rfl := hw2)
              | (go_quiet (fail)))
            go_ret
            rw [Hc.out]
            exact ⟨rfl, V, k + 2 + 1, by omega, fun _ => rfl, (rd_drewN ((rd_drewN HR1.out _).atI (k + 2) (by have := Hq.out; omega)) _).atI (k + 2 + 1) (by have := Hq3.out; omega), ((((HF1.out.drewN _).trans (Fr.setR 1 _)).drewN _).trans (Fr.setR 1 _)).wk _⟩
          · have h62b : (n2 == 62) = false := beq_eq_false_iff_ne.2 h62
            have Hc : Hid (res = some (true, L, bogusS (s.data.toList.drop (k + 2)))) := hid (by rw [← Hres6.out, if_neg (bOf_no n2 hn0' hn1' 62 62 rfl h62), Hd2.out])
            go_enter Tryd.func53, Tryd.ntmps53
            go_wp2_with (first
              | (go_at_call 79; (with_reducible refine (HL1.out _).mono ?_); rintro e2 w2 ⟨rfl, hw2⟩; obtain rfl := hw2)
              | (go_at_call 79; (with_reducible refine (HL2.out _).mono ?_); rintro e2 w2 ⟨rfl, hw2⟩; obtain rfl := hw2)
              | (go_quiet (fail)))
            refine (HBo.out _ (k + 2) ?pl ?_).mono ?_
            case pl => omega
            · exact rd_drewN ((rd_drewN HR1.out _).atI (k + 2) (by have := Hq.out; omega)) _
            rintro e w4 ⟨rfl, k', hk', hr', hRd', hF'⟩
            go_wp2
            go_ret
            rw [Hc.out]
            exact ⟨rfl, V, k', hk', fun _ => hr', hRd', ((((HF1.out.drewN _).trans (Fr.setR 1 _)).drewN _).trans hF').wk _⟩
end Go.Proofs.YtihgmgpcdodknaaDoor
