/- CsslexPieces: what it returns. -/
import Derived.Test.YtkfijdccemblmaaPcs
import Derived.Test.YtkfijdccemblmaaLexC
import Derived.Test.YtkfijdccemblmaaRef2
import Derived.Deep.QuietTactic
import Derived.BigQuiet
set_option linter.unusedVariables false
namespace Go.Proofs.Ytkfijdccemblmaa
open Go.RowKit

theorem below_drewN {B : Nat} {w w' : World} (h : Below B w w') : ∀ n, Below B w (w'.drewN n)
  | 0 => h
  | n + 1 => (below_drewN h n).drew
theorem str_self (t : ByteArray) : (t.toList == t.toList) = true := by simp
theorem bytes_eq {a b : ByteArray} (h : a.data.toList = b.data.toList) : a = b := by
  cases a; cases b
  simp only [ByteArray.mk.injEq]
  exact Array.toList_inj.1 h
theorem pcCells_len (l : List Pc) : (pcCells l).length = l.length * 3 := by
  induction l with
  | nil => rfl
  | cons p l ih => simp only [pcCells, List.flatMap_cons, List.length_append, List.length_cons] at ih ⊢; rw [ih]; simp [Pc.cells]; omega
theorem pcCells_get (l : List Pc) (i j : Nat) (hi : i < l.length) (hj : j < 3) : (pcCells l)[i * 3 + j]? = (l[i].cells)[j]? := by
  induction l generalizing i with
  | nil => simp at hi
  | cons p l ih =>
    have e : pcCells (p :: l) = p.cells ++ pcCells l := by simp [pcCells]
    have hl : p.cells.length = 3 := rfl
    rw [e]
    cases i with
    | zero => rw [List.getElem?_append_left (by omega)]; simp
    | succ i =>
      rw [List.getElem?_append_right (by omega)]
      have h2 := ih i (by simpa using hi)
      have e2 : (i + 1) * 3 + j - p.cells.length = i * 3 + j := by omega
      rw [e2, h2]; simp
theorem OwnP.cell {w : World} {base : Nat} {A : Option Addr} {n cap : Nat} {l : List Pc} (h : OwnP w base (.slice A n cap) l) {k : Nat} (hk : k < l.length) :
    ∃ g, A = some ⟨g, 0, none⟩ ∧ w.cell? ⟨g, k * 3, none⟩ = some (.int .i64 l[k].k) ∧ w.cell? ⟨g, k * 3 + 1, none⟩ = some (.string ⟨l[k].x.toArray⟩) ∧ w.cell? ⟨g, k * 3 + 2, none⟩ = some (.int .i64 (l[k].a : Int)) := by
  rcases h.2 with ⟨e, h0⟩ | ⟨g, c, cur, e, _⟩
  · omega
  · injection e with e1 e2 e3
    subst e1
    have hc := World.ownsRow.cells h (g := g) rfl
    have h0 := hc (k * 3) _ (pcCells_get l k 0 hk (by omega))
    have h1 := hc (k * 3 + 1) _ (pcCells_get l k 1 hk (by omega))
    have h2 := hc (k * 3 + 2) _ (pcCells_get l k 2 hk (by omega))
    rw [Addr.add_lit, Nat.zero_add] at h0 h1 h2
    exact ⟨g, rfl, h0, h1, h2⟩

theorem OwnP.bound {w : World} {base : Nat} {v : Value} {l : List Pc} (h : OwnP w base v l) : l.length ≤ 9223372036854775807 := by
  rcases h.2 with ⟨e, h0⟩ | ⟨g, c, cur, e, hb, hh, h1, h2, _⟩
  · rw [h0]; omega
  · unfold maxLen at h2; omega
theorem alive_pcs : pieces [97, 58, 32, 98] = ([⟨1, [97], 0⟩, ⟨5, [58], 1⟩, ⟨1, [98], 3⟩], 4, 0) := by kernel_rfl
set_option maxHeartbeats 800000 in
theorem alive39_any (w : World) (hm : MaxAt w) : Calls Try.prog 7 #[] w fun e w' => e = .returned (.bool true) ∧ Below w.heap.size w w' := by
  have Hm := hid hm
  clear hm
  go_enter Try.func7, Try.ntmps7
  go_wp2_with fail
  refine (pieces_any _ _ (by simp [ByteArray.size]) Hm.out).mono ?_
  rintro e w1 ⟨A, n, cap, a, er, rfl, hn, ha, her, hO, hb⟩
  have hn2 := hn.out
  have ha2 := ha.out
  have he2 := her.out
  have hO2 := hO.out
  have e0 : (⟨#[97, 58, 32, 98]⟩ : ByteArray).data.toList = [97, 58, 32, 98] := rfl
  rw [e0, alive_pcs] at hn2 ha2 he2 hO2
  obtain rfl : n = 3 := hn2.symm
  obtain rfl : a = 4 := ha2
  obtain rfl : er = 0 := he2
  obtain ⟨g, rfl, c0, c1, c2⟩ := OwnP.cell hO2 (k := 1) (by simp)
  simp only [List.getElem_cons_succ, List.getElem_cons_zero] at c0
  clear hn ha her hO hO2 c1 c2 e0
  go_wp2
  go_ret
  exact ⟨by first | rfl | simp, hb⟩

set_option maxRecDepth 100000 in
set_option maxHeartbeats 3200000 in
theorem csslexPieces_any (s : ByteArray) (w : World) (hs : s.size ≤ 1048576) (hm : MaxAt w) :
    Calls Try.prog 3 #[.string s] w fun e w' => e = .returned (.bool true) ∧ Below w.heap.size w w' := by
  have Hm := hid hm
  have Hlen := hid (len_data s)
  clear hm
  by_cases hl : s.size ≤ 65536
  · have hcov := pieces_cov s.data.toList (by rw [len_data]; exact hl)
    have hl2 : ¬ (65536 : Int) < s.size := by omega
    rcases hcov with ⟨L, hL, hC⟩ | ⟨an, er, hE, hn, her⟩
    · have HL := hid hL
      have HC := hid hC
      clear hL hC
      go_enter Try.func3, Try.ntmps3
      go_wp2_with fail
      refine (alive39_any _ Hm.out).mono ?_
      rintro e w1 ⟨rfl, hb1⟩
      go_wp2_with fail
      refine (pieces_any s _ (by omega) (Hm.out.keep hb1)).mono ?_
      rintro e w2 ⟨A, n, cap, a, er, rfl, hn, ha, her, hO, hb2⟩
      have hbb2 := then_ hb1 hb2
      have hn2 := hn.out
      have ha2 := ha.out
      have he2 := her.out
      have hO2 := hO.out
      rw [HL.out] at hn2 ha2 he2 hO2
      rw [Hlen.out] at ha2
      obtain rfl : er = 0 := he2
      obtain rfl : a = (s.size : Int) := ha2
      have Hn := hid hn2
      have HO := hid hO2
      have hnb : n ≤ 9223372036854775807 := by rw [← hn2]; exact OwnP.bound hO2
      clear hn ha her hO hn2 hO2
      go_wp2
      go_loopw [6, 7, 8] (fun p i x wr => ∃ (j c : Nat), j ≤ n ∧ c ≤ s.size ∧ i = .int .i64 j ∧ p = .int .i64 c ∧ Hid (Cov s.data.toList c (L.drop j)) ∧ Below w2.heap.size w2 wr) (fun _ i _ _ => n - (intOf i).toNat)
      case atStart => exact ⟨0, 0, Nat.zero_le _, Nat.zero_le _, rfl, rfl, hid HC.out, Below.refl _ _⟩
      case round =>
        obtain ⟨j, c, hj, hc, rfl, rfl, hcv, hbw⟩ := hrel
        obtain ⟨wo, rfl⟩ : ∃ wo : World, wo = wr := ⟨_, rfl⟩
        by_cases hlt : j < n
        · have hjl : j < L.length := by rw [Hn.out]; exact hlt
          obtain ⟨g, rfl, c0, c1, c2⟩ := OwnP.cell (HO.out.keep hbw) (k := j) hjl
          obtain ⟨pc, hpc⟩ : ∃ pc : Pc, L[j] = pc := ⟨_, rfl⟩
          rw [hpc] at c0 c1 c2
          have hcv2 := hcv.out
          rw [List.drop_eq_getElem_cons hjl, hpc] at hcv2
          obtain ⟨kd, x, pa⟩ := pc
          obtain ⟨h1, h2, h3, h4, h5, h6, h7, h8⟩ := hcv2
          simp only at h1 h2 h3 h4 h5 h6 h7 h8 c0 c1 c2
          rw [Hlen.out] at h4
          have H2 := hid h2
          have H8 := hid h8
          obtain ⟨t, ht⟩ : ∃ t : ByteArray, (⟨x.toArray⟩ : ByteArray) = t := ⟨_, rfl⟩
          rw [ht] at c1
          have htd : t.data.toList = x := by rw [← ht]
          have htz : t.size = x.length := by rw [← len_data, htd]
          have hxl : 1 ≤ x.length := by cases x with | nil => exact absurd rfl h3 | cons => simp
          obtain ⟨m, hm⟩ : ∃ m, x.length = m := ⟨_, rfl⟩
          rw [hm] at h4 htz hxl
          have H8' : Hid (Cov s.data.toList (pa + m) (L.drop (j + 1))) := hid (by rw [← hm]; exact H8.out)
          have HT : s.extract pa (pa + m) = t := bytes_eq (by
            rw [data_extract, List.drop_take, htd, ← h5, hm, show pa + m - pa = m by omega])
          have HT' := hid HT
          have Htz := hid htz
          clear h2 h8 h3 h5 hm ht htd hpc hjl hcv H8 HT htz
          go_wp2
          go_loop [6] (fun p => ∃ d : Nat, c ≤ d ∧ d ≤ pa ∧ p = .int .i64 d) (fun p => pa - (intOf p).toNat)
          case atStart => exact ⟨c, Nat.le_refl _, h1, rfl⟩
          case round =>
            obtain ⟨d, hd1, hd2, rfl⟩ := hrel
            by_cases hdp : d < pa
            · have hds : d < s.size := by omega
              obtain ⟨n', hn', hn0, hn1, hbn⟩ := byte_of s d hds
              have hB : Hid (isBlank (bOf n') = true) := hid (by
                rw [hbn]
                exact H2.out d (by rw [Hlen.out]; exact hds) hd1 hdp)
              have HR := hid (fun W => refBlank_any n' hn0 hn1 W)
              clear hbn
              go_wp2_with fail
              refine (HR.out _).mono ?_
              rintro e w3 ⟨rfl, rfl⟩
              rw [hB.out]
              go_wp2
              go_round
              case rel => exact ⟨d + 1, by omega, by omega, by go_num⟩
              case measure => simp [intOf]; omega
            · obtain rfl : d = pa := by omega
              have htz := Htz.out
              have hne : (t.toList == []) = false := by
                rw [beq_eq_false_iff_ne]
                intro e
                have := congrArg List.length e
                rw [ByteArray.toList_eq, len_data] at this
                have h0 : t.size = 0 := this
                omega
              have hne2 : t.toList ≠ [] := beq_eq_false_iff_ne.1 hne
              have hss := str_self t
              have hk0 : (0 : Int) ≤ (j : Int) := by omega
              have hk1 : (j : Int) < (n : Int) := by omega
              have HT := HT'.out
              have hq1 : decide ((s.size : Int) < (d : Int) + m) = false := decide_eq_false (by omega)
              have hq2 : decide (kd < 1) = false := decide_eq_false (by omega)
              have hq3 : decide (5 < kd) = false := decide_eq_false (by omega)
              have hz : (t.size : Int) = m := by omega
              clear htz
              go_wp2_with (go_quiet (fail))
              go_roundw
              case rel => exact ⟨j + 1, d + m, by omega, by omega, by go_num, by go_num, hid H8'.out, below_drewN hbw _⟩
              case measure => simp [intOf]; omega
        · obtain rfl : j = n := by omega
          have hcv2 := hcv.out
          rw [List.drop_of_length_le (by rw [Hn.out]; exact Nat.le_refl _)] at hcv2
          have Hcv := hid hcv2
          clear hcv2 hcv
          have hbbw := then_ hbb2 hbw
          go_wp2
          go_loop [6] (fun p => ∃ d : Nat, c ≤ d ∧ d ≤ s.size ∧ p = .int .i64 d) (fun p => s.size - (intOf p).toNat)
          case atStart => exact ⟨c, Nat.le_refl _, hc, rfl⟩
          case round =>
            obtain ⟨d, hd1, hd2, rfl⟩ := hrel
            by_cases hds : d < s.size
            · obtain ⟨n', hn', hn0, hn1, hbn⟩ := byte_of s d hds
              have hB : Hid (isBlank (bOf n') = true) := hid (by
                rw [hbn]
                exact Hcv.out d (by rw [Hlen.out]; exact hds) hd1)
              have HR := hid (fun W => refBlank_any n' hn0 hn1 W)
              clear hbn
              go_wp2_with fail
              refine (HR.out _).mono ?_
              rintro e w3 ⟨rfl, rfl⟩
              rw [hB.out]
              go_wp2
              go_round
              case rel => exact ⟨d + 1, by omega, by omega, by go_num⟩
              case measure => simp [intOf]; omega
            · obtain rfl : d = s.size := by omega
              go_wp2
              go_ret
              exact ⟨by first | rfl | simp, hbbw⟩
    · have HE := hid hE
      clear hE
      rw [Hlen.out] at hn
      go_enter Try.func3, Try.ntmps3
      go_wp2_with fail
      refine (alive39_any _ Hm.out).mono ?_
      rintro e w1 ⟨rfl, hb1⟩
      go_wp2_with fail
      refine (pieces_any s _ (by omega) (Hm.out.keep hb1)).mono ?_
      rintro e w2 ⟨A, n, cap, a, er', rfl, hn', ha, her', hO, hb2⟩
      have hbb2 := then_ hb1 hb2
      have hn2 := hn'.out
      have ha2 := ha.out
      have he2 := her'.out
      rw [HE.out] at hn2 ha2 he2
      simp only at hn2 ha2 he2
      obtain rfl : n = 0 := hn2.symm
      have ha0 : 0 ≤ a := by omega
      have ha1 : a < s.size := by omega
      clear hn' ha her' hO ha2
      rcases her with rfl | rfl
      · subst he2
        go_wp2
        go_ret
        exact ⟨by first | rfl | (simp; omega), hbb2⟩
      · subst he2
        go_wp2
        go_ret
        exact ⟨by first | rfl | (simp; omega), hbb2⟩
  · have hl2 : (65536 : Int) < s.size := by omega
    have HE : Hid (pieces s.data.toList = ([], 0, 5)) := hid (by unfold pieces; rw [if_neg (by rw [len_data]; exact hl)])
    go_enter Try.func3, Try.ntmps3
    go_wp2_with fail
    refine (alive39_any _ Hm.out).mono ?_
    rintro e w1 ⟨rfl, hb1⟩
    go_wp2_with fail
    refine (pieces_any s _ (by omega) (Hm.out.keep hb1)).mono ?_
    rintro e w2 ⟨A, n, cap, a, er', rfl, hn', ha, her', hO, hb2⟩
    have hbb2 := then_ hb1 hb2
    have ha2 := ha.out
    have he2 := her'.out
    rw [HE.out] at ha2 he2
    obtain rfl : a = 0 := ha2
    obtain rfl : er' = 5 := he2
    clear hn' ha her' hO
    go_wp2
    go_ret
    exact ⟨by first | rfl | simp, hbb2⟩
end Go.Proofs.Ytkfijdccemblmaa
