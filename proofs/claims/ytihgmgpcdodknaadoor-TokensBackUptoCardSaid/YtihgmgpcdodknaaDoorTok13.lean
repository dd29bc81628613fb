/- tables.Element, octets.Starts; the reader's ends. -/
import Derived.Test.YtihgmgpcdodknaaDoorTok4
set_option linter.unusedVariables false
namespace Go.Proofs.YtihgmgpcdodknaaDoor
open Go.RowKit

theorem str_eqL (s : ByteArray) (l : List UInt8) : (s.toList == l) = decide (s.data.toList = l) := by
  rw [ByteArray.toList_eq]
  by_cases h : s.data.toList = l
  · rw [decide_eq_true h, h]; simp
  · rw [decide_eq_false h]; simpa using h
theorem element_any (s : ByteArray) (w : World) :
    Calls Tryd.prog 46 #[.string s] w fun e w' => e = .returned (.int .i64 (elemK s.data.toList)) ∧ w' = w := by
  have hl := hid (show elemK s.data.toList = elemK s.data.toList from rfl)
  unfold elemK sTitle sArea sStyle sScript sBarred
  have e1 := str_eqL s
  go_enter Tryd.func46, Tryd.ntmps46
  go_wp2
  all_goals
    go_ret
    refine ⟨?_, rfl⟩
    simp_all
set_option maxRecDepth 100000 in
set_option maxHeartbeats 1600000 in
theorem starts_any (s p : ByteArray) (w : World) (hs : s.size ≤ 1099511627776) (hp : p.size ≤ 1099511627776) :
    Calls Tryd.prog 124 #[.string s, .string p] w fun e w' => e = .returned (.bool (startsB s.data.toList p.data.toList)) ∧ Below w.heap.size w w' := by
  obtain ⟨res, hres⟩ : ∃ res, startsB s.data.toList p.data.toList = res := ⟨_, rfl⟩
  rw [hres]
  have Hres := hid hres
  clear hres
  have Hs := hid (by intro W; exact lower_any (s.extract 0 p.size) W (by rw [ByteArray.size_extract]; omega) : ∀ W, _)
  have Hp := hid (fun W => lower_any p W hp)
  by_cases hle : p.size ≤ s.size
  · have hle' : (p.size : Int) ≤ (s.size : Int) := by omega
    go_enter Tryd.func124, Tryd.ntmps124
    go_wp2_with (first
      | (go_at_call 102; refine (Hs.out _).mono ?_; rintro e w1 ⟨t1, rfl, ht1, hb1⟩)
      | (go_at_call 102; refine (Hp.out _).mono ?_; rintro e w2 ⟨t2, rfl, ht2, hb2⟩))
    go_ret
    refine ⟨?_, hb1.trans (hb2.mono hb1.size)⟩
    have hr : (t1.toList == t2.toList) = res := by
      rw [← Hres.out, ByteArray.toList_eq, ByteArray.toList_eq, ht1.out, ht2.out, data_extract]
      unfold startsB
      rw [decide_eq_true (by rw [len_data, len_data]; exact hle), Bool.true_and, List.drop_zero, len_data]
    rw [← hr]
    first | rfl | simp
  · have hle' : ¬ (p.size : Int) ≤ (s.size : Int) := by omega
    go_enter Tryd.func124, Tryd.ntmps124
    go_wp2
    go_ret
    refine ⟨?_, Below.refl _ _⟩
    have hr : false = res := by
      rw [← Hres.out]
      unfold startsB
      rw [decide_eq_false (by rw [len_data, len_data]; exact hle), Bool.false_and]
    rw [← hr]
    rfl

set_option maxRecDepth 100000 in
set_option maxHeartbeats 3200000 in
theorem ends_any (base R : Nat) (s : ByteArray) (k : Nat) (V : Value) (L : List Tk) (i : Nat) (nm : ByteArray) (w : World) (hs : s.size ≤ 65536) (hi : i ≤ s.size) (hn : nm.size ≤ 65536) (h : Rd w base R s k V L) :
    Calls Tryd.prog 118 #[.pointer (some ⟨R, 0, none⟩), .int .i64 (i : Int), .string nm] w fun e w' => e = .returned (.bool (endsB nm.data.toList (s.data.toList.drop i))) ∧ Below w.heap.size w w' := by
  obtain ⟨res, hres⟩ : ∃ res, endsB nm.data.toList (s.data.toList.drop i) = res := ⟨_, rfl⟩
  rw [hres]
  have Hres := hid hres
  clear hres
  have c0 := h.c0
  have hRlt := h.lt
  have hi0 : (0 : Int) ≤ (i : Int) := by omega
  have hi1 : (i : Int) ≤ (s.size : Int) := by omega
  obtain ⟨q, hq⟩ : ∃ q, i + 2 + nm.size = q := ⟨_, rfl⟩
  have Hq := hid hq
  have hw1 : ((i : Int) + 2) + (nm.size : Int) = (q : Int) := by omega
  have hcat : ¬ 9223372036854775807 < 2 + nm.size := by omega
  have Hst := hid (fun W => starts_any (s.extract i s.size) (⟨#[60, 47]⟩ ++ nm) W (by rw [ByteArray.size_extract]; omega) (by rw [ByteArray.size_append, show (⟨#[60, 47]⟩ : ByteArray).size = 2 from rfl]; omega))
  have Hlist : Hid ((⟨#[60, 47]⟩ ++ nm : ByteArray).data.toList = 60 :: 47 :: nm.data.toList) := hid (by rw [data_append]; rfl)
  have Hext : Hid ((s.extract i s.size).data.toList = s.data.toList.drop i) := hid (by rw [data_extract, take_all])
  rw [Hlist.out, Hext.out] at Hst
  obtain ⟨b, hb⟩ : ∃ b, startsB (s.data.toList.drop i) (60 :: 47 :: nm.data.toList) = b := ⟨_, rfl⟩
  rw [hb] at Hst
  have Hb := hid hb
  have Hget : Hid ((s.data.toList.drop i)[nm.data.toList.length + 2]? = s.data.toList[q]?) := hid (by rw [List.getElem?_drop, len_data]; congr 1; omega)
  clear h hq hb
  have Hbl0 := hid (fun (n : Int) (h0 : 0 ≤ n) (h1 : n ≤ 255) W => (blank_any n h0 h1 W).mono fun e w' h => (⟨h.1, h.2.symm⟩ : e = _ ∧ w' = W))
  cases b with
  | false =>
    have Hbl := hid (Hbl0.out 0 (by omega) (by omega))
    go_enter Tryd.func118, Tryd.ntmps118
    go_wp2_with (first
      | (go_at_call 124; refine (Hst.out _).mono ?_; rintro e w1 ⟨rfl, hb1⟩; have d0 := cell_aft (v := .string s) hb1 hRlt c0)
      | (go_at_call 101; refine (Hbl.out _).mono ?_; rintro e2 w2 ⟨rfl, hw2⟩; obtain rfl := hw2))
    go_ret
    refine ⟨?_, hb1⟩
    rw [show res = false from by rw [← Hres.out]; unfold endsB; rw [Hb.out]; rfl] <;> rfl
  | true =>
    by_cases hlt : q < s.size
    · obtain ⟨n, hn, hn0, hn1, hbn⟩ := byteOf s q hlt
      have Hbl := hid (Hbl0.out n hn0 hn1)
      have Hq2 : Hid (s.data.toList[q]? = some (bOf n)) := hid (by rw [hbn, List.getElem?_eq_getElem (by rw [len_data]; exact hlt), data_get s q hlt])
      have hmi0 : (0 : Int) ≤ (q : Int) := by omega
      have hmi1 : (q : Int) < (s.size : Int) := by omega
      have hmi2 : decide ((q : Int) < (s.size : Int)) = true := decide_eq_true hmi1
      have hmi3 : decide (q < s.size) = true := decide_eq_true hlt
      have Hr := hid (show res = endC (bOf n) from by rw [← Hres.out]; unfold endsB; rw [Hb.out, Hget.out, Hq2.out]; rfl)
      clear hbn
      by_cases hb : isBlank (bOf n) = true
      · rw [hb] at Hbl
        go_enter Tryd.func118, Tryd.ntmps118
        go_wp2_with (first
          | (go_at_call 124; refine (Hst.out _).mono ?_; rintro e w1 ⟨rfl, hb1⟩; have d0 := cell_aft (v := .string s) hb1 hRlt c0)
          | (go_at_call 101; refine (Hbl.out _).mono ?_; rintro e2 w2 ⟨rfl, hw2⟩; obtain rfl := hw2))
        go_ret
        refine ⟨?_, hb1⟩
        rw [show res = true from by rw [Hr.out]; unfold endC; rw [hb]; rfl] <;> rfl
      · have hb' : isBlank (bOf n) = false := by simpa using hb
        rw [hb'] at Hbl
        by_cases h47 : n = 47
        · subst h47
          go_enter Tryd.func118, Tryd.ntmps118
          go_wp2_with (first
            | (go_at_call 124; refine (Hst.out _).mono ?_; rintro e w1 ⟨rfl, hb1⟩; have d0 := cell_aft (v := .string s) hb1 hRlt c0)
            | (go_at_call 101; refine (Hbl.out _).mono ?_; rintro e2 w2 ⟨rfl, hw2⟩; obtain rfl := hw2))
          go_ret
          refine ⟨?_, hb1⟩
          rw [show res = true from by rw [Hr.out]; rfl] <;> rfl
        · have h47b : (n == 47) = false := beq_eq_false_iff_ne.2 h47
          by_cases h62 : n = 62
          · subst h62
            go_enter Tryd.func118, Tryd.ntmps118
            go_wp2_with (first
              | (go_at_call 124; refine (Hst.out _).mono ?_; rintro e w1 ⟨rfl, hb1⟩; have d0 := cell_aft (v := .string s) hb1 hRlt c0)
              | (go_at_call 101; refine (Hbl.out _).mono ?_; rintro e2 w2 ⟨rfl, hw2⟩; obtain rfl := hw2))
            go_ret
            refine ⟨?_, hb1⟩
            rw [show res = true from by rw [Hr.out]; rfl] <;> rfl
          · have h62b : (n == 62) = false := beq_eq_false_iff_ne.2 h62
            have e1 := bOf_no n hn0 hn1 47 47 rfl h47
            have e2 := bOf_no n hn0 hn1 62 62 rfl h62
            have Hr2 := hid (show res = false from by rw [Hr.out]; unfold endC; rw [hb']; simp [e1, e2])
            clear e1 e2
            go_enter Tryd.func118, Tryd.ntmps118
            go_wp2_with (first
              | (go_at_call 124; refine (Hst.out _).mono ?_; rintro e w1 ⟨rfl, hb1⟩; have d0 := cell_aft (v := .string s) hb1 hRlt c0)
              | (go_at_call 101; refine (Hbl.out _).mono ?_; rintro e2 w2 ⟨rfl, hw2⟩; obtain rfl := hw2))
            go_ret
            refine ⟨?_, hb1⟩
            rw [show res = false from Hr2.out] <;> rfl
    · have Hbl := hid (Hbl0.out 0 (by omega) (by omega))
      have hmi1 : ¬ (q : Int) < (s.size : Int) := by omega
      have hmi2 : decide ((q : Int) < (s.size : Int)) = false := decide_eq_false hmi1
      have hmi3 : decide (q < s.size) = false := decide_eq_false hlt
      go_enter Tryd.func118, Tryd.ntmps118
      go_wp2_with (first
        | (go_at_call 124; refine (Hst.out _).mono ?_; rintro e w1 ⟨rfl, hb1⟩; have d0 := cell_aft (v := .string s) hb1 hRlt c0)
        | (go_at_call 101; refine (Hbl.out _).mono ?_; rintro e2 w2 ⟨rfl, hw2⟩; obtain rfl := hw2))
      go_ret
      refine ⟨?_, hb1⟩
      rw [show res = false from by rw [← Hres.out]; unfold endsB; rw [Hb.out, Hget.out, List.getElem?_eq_none (by rw [len_data]; omega)]; rfl] <;> rfl
end Go.Proofs.YtihgmgpcdodknaaDoor
