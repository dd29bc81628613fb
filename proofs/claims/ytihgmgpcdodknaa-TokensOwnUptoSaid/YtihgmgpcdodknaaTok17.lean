/- The reader's bang. -/
import Derived.Test.YtihgmgpcdodknaaTok14
import Derived.Test.YtihgmgpcdodknaaTok16
set_option linter.unusedVariables false
namespace Go.Proofs.Ytihgmgpcdodknaa
open Go.RowKit

def BP (base R : Nat) (s : ByteArray) (V : Value) (w : World) (o : Option (List Tk × List UInt8)) (e : Ending) (w' : World) : Prop :=
  match o with
  | none => e = .panicked [{ v := .iface 30 (.int .i64 3), recovered := false }] ∧ ∃ row, Fr R V.ownBlock row w w'
  | some (L', r) => e = .returned (.tuple #[]) ∧ ∃ V' k', k' ≤ s.size ∧ s.data.toList.drop k' = r ∧ Rd w' base R s k' V' L' ∧ Fr R V.ownBlock V'.ownBlock w w'
theorem below_same {w W : World} (h : W.heap = w.heap) (h1 : W.os = w.os) (h2 : W.tape = w.tape) (h3 : W.output = w.output) : Below w.heap.size w W := ⟨h1, h2, h3, by rw [h]; exact Nat.le_refl _, fun _ _ => by rw [h]⟩
theorem Fr.fromN {R : Nat} {a b : Option Nat} {w w2 : World} {n : Nat} (h : Fr R a b (w.drewN n) w2) : Fr R a b w w2 := ((Fr.refl R a w).drewN n).trans h
theorem maxAt_drewN {w : World} (h : MaxAt w) (n : Nat) : MaxAt (w.drewN n) := h
theorem idx_room : ∀ (l : List UInt8) (j : Nat), Lib.index l [45, 45, 62] = (j : Int) → j + 3 ≤ l.length
  | [], j, h => by
    have h1 : (-1 : Int) = (j : Int) := h
    omega
  | b :: l, j, h => by
    rw [Lib.index] at h
    split at h
    · rename_i hp
      have := (List.isPrefixOf_iff_prefix.1 hp).length_le
      simp only [List.length_cons, List.length_nil] at this ⊢
      omega
    · split at h
      · omega
      · rename_i h1 h2
        have hg := Lib.index_ge l [45, 45, 62]
        have hne : Lib.index l [45, 45, 62] ≠ -1 := by simpa using h2
        have := idx_room l (Lib.index l [45, 45, 62]).toNat (by omega)
        simp only [List.length_cons]
        omega
theorem cut_yes (l : List UInt8) (h : ¬ Lib.index l [45, 45, 62] < 0) : Lib.cut l [45, 45, 62] = (l.take (Lib.index l [45, 45, 62]).toNat, l.drop ((Lib.index l [45, 45, 62]).toNat + 3), true) := by
  unfold Lib.cut; rw [if_pos (by omega)]; rfl
theorem cut_no (l : List UInt8) (h : Lib.index l [45, 45, 62] < 0) : Lib.cut l [45, 45, 62] = (l, [], false) := by
  unfold Lib.cut; rw [if_neg (by omega)]
set_option maxRecDepth 100000 in
set_option maxHeartbeats 3200000 in
theorem bang_any (base R : Nat) (s : ByteArray) (k : Nat) (V : Value) (L : List Tk) (w : World) (hs : s.size ≤ 65536) (hk : k ≤ s.size) (hL : L.length ≤ 4096) (h : Rd w base R s k V L) (hM : MaxAt w) :
    Calls Try.prog 61 #[.pointer (some ⟨R, 0, none⟩)] w (BP base R s V w (bangS (s.data.toList.drop k) L)) := by
  have H := hid h
  have HL := hid hL
  have HM := hid hM
  have c0 := h.c0
  have c1 := h.c1
  obtain ⟨res, hres⟩ : ∃ res, bangS (s.data.toList.drop k) L = res := ⟨_, rfl⟩
  rw [hres]
  have Hres := hid hres
  have hk0 : (0 : Int) ≤ (k : Int) := by omega
  have hk1 : (k : Int) ≤ (s.size : Int) := by omega
  have Hhp := hid (fun W => Try.strings_HasPrefix (s.extract k s.size) ⟨#[45, 45]⟩ W)
  obtain ⟨b, hb⟩ : ∃ b, [45, 45].isPrefixOf (s.data.toList.drop k) = b := ⟨_, rfl⟩
  have he : Lib.hasPrefix (s.extract k s.size).data.toList (⟨#[45, 45]⟩ : ByteArray).data.toList = b := by rw [data_extract, take_all]; exact hb
  rw [he] at Hhp
  have Hb := hid hb
  clear h hL hM hres he hb
  cases b with
  | false =>
    have Hr := hid (show res = some (L, bogusS (s.data.toList.drop k)) from by rw [← Hres.out]; unfold bangS; rw [Hb.out]; rfl)
    have Hbo := hid (fun n => bogus_any base R s k V L (w.drewN n) hs hk (rd_drewN H.out n))
    go_enter Try.func61, Try.ntmps61
    go_wp2_with (go_quiet ((go_at_call 76; exact Calls.quiet_of_same (Hhp.out _))))
    refine (Hbo.out _).mono ?_
    rintro e w1 ⟨rfl, k', hk', hr, hRd, hF⟩
    go_wp2
    go_end0
    rw [Hr.out]
    exact ⟨rfl, V, k', hk', hr, hRd, ((((Fr.refl R none w).drewN _).trans hF).wk _)⟩
  | true =>
    have hlen : 2 ≤ (s.data.toList.drop k).length := by
      have := (List.isPrefixOf_iff_prefix.1 Hb.out).length_le
      simpa using this
    rw [List.length_drop, len_data] at hlen
    obtain ⟨p, hp⟩ : ∃ p, k + 2 = p := ⟨_, rfl⟩
    have hp1 : (k : Int) + 2 = (p : Int) := by omega
    have hp2 : p ≤ s.size := by omega
    have hp3 : (p : Int) ≤ (s.size : Int) := by omega
    have hp4 : (0 : Int) ≤ (p : Int) := by omega
    have Hdp : Hid ((s.data.toList.drop k).drop 2 = s.data.toList.drop p) := hid (by rw [List.drop_drop, hp])
    have Hcu := hid (fun W (hMW : MaxAt W) => (hMW.elim fun m hm => Try.strings_Cut (s.extract p s.size) ⟨#[45, 45, 62]⟩ m W (by rw [ByteArray.size_extract]; omega) hm : Calls Try.prog 77 #[.string (s.extract p s.size), .string ⟨#[45, 45, 62]⟩] W fun e w' => e = .returned (.tuple #[.string ⟨(Lib.cut (s.extract p s.size).data.toList (⟨#[45, 45, 62]⟩ : ByteArray).data.toList).1.toArray⟩, .string ⟨(Lib.cut (s.extract p s.size).data.toList (⟨#[45, 45, 62]⟩ : ByteArray).data.toList).2.1.toArray⟩, .bool (Lib.cut (s.extract p s.size).data.toList (⟨#[45, 45, 62]⟩ : ByteArray).data.toList).2.2]) ∧ ∃ m, w' = W.drewN m))
    have hw2 : IntKind.i64.wrap ((k : Int) + 2) = (p : Int) := by rw [hp1]; exact IntWalk.i64_in _ (by omega)
    clear hp1
    rw [data_extract, take_all, show (⟨#[45, 45, 62]⟩ : ByteArray).data.toList = [45, 45, 62] from rfl] at Hcu
    obtain ⟨t, ht⟩ : ∃ t : ByteArray, (⟨(Lib.cut (s.data.toList.drop p) [45, 45, 62]).1.toArray⟩ : ByteArray) = t := ⟨_, rfl⟩
    obtain ⟨rs, hrs⟩ : ∃ t : ByteArray, (⟨(Lib.cut (s.data.toList.drop p) [45, 45, 62]).2.1.toArray⟩ : ByteArray) = t := ⟨_, rfl⟩
    rw [ht, hrs] at Hcu
    have Ht : Hid (t = bs (Lib.cut (s.data.toList.drop p) [45, 45, 62]).1) := hid ht.symm
    have Hrs : Hid (rs = bs (Lib.cut (s.data.toList.drop p) [45, 45, 62]).2.1) := hid hrs.symm
    obtain ⟨o, ho⟩ : ∃ o, tellS ⟨4, [], (Lib.cut (s.data.toList.drop p) [45, 45, 62]).1, [], false⟩ L = o := ⟨_, rfl⟩
    have HK := hid (fun (W : World) (hW : Rd W base R s k V L) => (by
      have := tell_any base R s k V L ⟨4, [], (Lib.cut (s.data.toList.drop p) [45, 45, 62]).1, [], false⟩ (.slice none 0 0) W HL.out hW (OwnA.nil _ _)
      rw [ho] at this
      simp only at this
      rw [← Ht.out] at this
      exact this : Calls Try.prog 59 #[.pointer (some ⟨R, 0, none⟩), .agg #[.int .i64 4, .string ⟨#[]⟩, .string t, .slice none 0 0, .bool false]] W (RT base R s V W k o)))
    by_cases hix : Lib.index (s.data.toList.drop p) [45, 45, 62] < 0
    · have Hr := hid (show res = o.map (·, []) from by
        rw [← Hres.out]
        unfold bangS
        rw [if_pos Hb.out, Hdp.out, if_pos hix, ← ho, cut_no _ hix])
      simp only [cut_no _ hix] at Hcu
      clear ho ht hrs hix hp
      go_enter Try.func61, Try.ntmps61
      go_wp2_with (go_quiet ((go_at_call 76; exact Calls.quiet_of_same (Hhp.out _))))
      refine wp_region_noPanic ?_
      go_region_law ((go_simp; go_at_call 77; refine (Hcu.out _ (maxAt_drewN HM.out _)).mono ?_; rintro e w1 ⟨rfl, nn, rfl⟩; dsimp only))
      all_goals
       refine NoPanic.normal ?_
       go_wp2_with fail
       refine (HK.out _ ?_).mono ?_
       · exact H.out.keep (below_same rfl rfl rfl rfl)
       intro e w2 hRT
       cases o with
       | none =>
        obtain ⟨rfl, row, hfr⟩ := hRT
        go_wp2
        rw [Hr.out]
        exact ⟨rfl, rfl, row, hfr.fromN⟩
       | some L' =>
        obtain ⟨rfl, V', h3, h4⟩ := hRT
        have q0 := h3.c0
        have q1 := h3.c1
        have p1 := h3.fz 1
        have H3 := hid h3
        have H4 := hid h4.fromN
        clear h3 h4
        go_wp2
        go_end0
        rw [Hr.out]
        exact ⟨rfl, V', s.size, Nat.le_refl _, List.drop_of_length_le (by rw [len_data]; exact Nat.le_refl _), H3.out.atI s.size (by omega), H4.out.trans (Fr.setR 1 _)⟩
    · obtain ⟨j, hj⟩ : ∃ j : Nat, Lib.index (s.data.toList.drop p) [45, 45, 62] = (j : Int) := ⟨(Lib.index (s.data.toList.drop p) [45, 45, 62]).toNat, by omega⟩
      have hc := cut_yes _ hix
      rw [hj, Int.toNat_natCast] at hc
      have hjl : j + 3 ≤ s.size - p := by
        have := idx_room (s.data.toList.drop p) j hj
        rw [List.length_drop, len_data] at this
        omega
      have Hr := hid (show res = o.map (·, s.data.toList.drop (p + j + 3)) from by
        rw [← Hres.out]
        unfold bangS
        rw [if_pos Hb.out, Hdp.out, if_neg hix, ← ho, hc, hj, Int.toNat_natCast, List.drop_drop]
        simp only
        congr 3)
      have hrz : rs.size = s.size - p - (j + 3) := by
        rw [Hrs.out, hc]
        simp only
        rw [← len_data, bs_list, List.length_drop, List.length_drop, len_data]
      simp only [hc] at Hcu
      have hrz2 : (s.size : Int) - (rs.size : Int) = ((p + j + 3 : Nat) : Int) := by omega
      clear ho ht hrs hix hp hc hj
      go_enter Try.func61, Try.ntmps61
      go_wp2_with (go_quiet ((go_at_call 76; exact Calls.quiet_of_same (Hhp.out _))))
      refine wp_region_noPanic ?_
      go_region_law ((go_simp; go_at_call 77; refine (Hcu.out _ (maxAt_drewN HM.out _)).mono ?_; rintro e w1 ⟨rfl, nn, rfl⟩; dsimp only))
      all_goals
       refine NoPanic.normal ?_
       go_wp2_with fail
       refine (HK.out _ ?_).mono ?_
       · exact H.out.keep (below_same rfl rfl rfl rfl)
       intro e w2 hRT
       cases o with
       | none =>
        obtain ⟨rfl, row, hfr⟩ := hRT
        go_wp2
        rw [Hr.out]
        exact ⟨rfl, rfl, row, hfr.fromN⟩
       | some L' =>
        obtain ⟨rfl, V', h3, h4⟩ := hRT
        have q0 := h3.c0
        have q1 := h3.c1
        have p1 := h3.fz 1
        have H3 := hid h3
        have H4 := hid h4.fromN
        clear h3 h4
        go_wp2
        go_end0
        rw [Hr.out]
        exact ⟨rfl, V', p + j + 3, by omega, rfl, H3.out.atI (p + j + 3) (by omega), H4.out.trans (Fr.setR 1 _)⟩
end Go.Proofs.Ytihgmgpcdodknaa
