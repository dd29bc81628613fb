/- CsslexHoles: what it returns. -/
import Derived.Test.YtkfijdccemblmaaFrmL
import Derived.Test.YtkfijdccemblmaaHlP
import Derived.Test.YtkfijdccemblmaaSty
import Derived.Test.YtkfijdccemblmaaStyle
set_option linter.unusedVariables false
namespace Go.Proofs.Ytkfijdccemblmaa
open Go.RowKit

def pv (p : Pc) : Pv := ⟨p.k, ⟨p.x.toArray⟩, p.a⟩
theorem pv_cells (l : List Pc) : pvCells (l.map pv) = pcCells l := by
  unfold pvCells pcCells
  rw [List.flatMap_map]; rfl
theorem OwnP.pvs {w : World} {base : Nat} {v : Value} {l : List Pc} (h : OwnP w base v l) : OwnV w base v (l.map pv) := by
  unfold OwnV
  rw [pv_cells, List.length_map]; exact h
theorem frV_pv (L : List Pc) : frV (L.map pv) = (frP L).map fun f => (⟨f.1, ⟨f.2.toArray⟩, 0⟩ : Pv) := by
  have hf : ∀ p : Pc, frB (pv p) = frK p.k p.x := fun p => rfl
  unfold frV frP
  rw [List.filter_map, List.map_map, List.map_map]
  have e : (frB ∘ pv) = fun p : Pc => frK p.k p.x := funext hf
  rw [e]; rfl
theorem pcsT_len : ∀ (m : Nat) (l : List UInt8) (a : Nat) (acc : List Pc), l.length ≤ m → acc.length ≤ 4096 → (pcsT l a acc).1.length ≤ 4096 := by
  intro m
  induction m with
  | zero =>
    intro l a acc h h2
    obtain rfl : l = [] := List.eq_nil_of_length_eq_zero (by omega)
    exact h2
  | succ m ih =>
    intro l a acc h h2
    cases l with
    | nil => exact h2
    | cons c r =>
      rw [List.length_cons] at h
      cases hb : isBlank c with
      | true => rw [pcsT_blank c r a acc hb]; exact ih r (a + 1) acc (by omega) h2
      | false =>
        cases hn : (oneP (c :: r)).2 with
        | none => rw [pcsT_none c r a acc hb hn]; simp
        | some n =>
          have hle := oneP_le c r n hn
          by_cases hf : acc.length < 4096
          · rw [pcsT_some c r a n acc hb hn hf]
            exact ih _ _ _ (by rw [List.length_drop, List.length_cons]; omega) (by rw [List.length_append, List.length_singleton]; omega)
          · rw [pcsT_full c r a n acc hb hn hf]; simp
theorem pieces_len (s : List UInt8) : (pieces s).1.length ≤ 4096 := by
  unfold pieces
  split
  · exact pcsT_len _ _ _ _ (Nat.le_refl _) (by simp)
  · simp
theorem style_ok (l : List UInt8) : ∀ c ∈ styleL l, okCss c = true := by
  unfold styleL
  split
  · rename_i h; exact styledL_ok h
  · exact styledL_ok styledL_mark
theorem style_len (l : List UInt8) : (styleL l).length ≤ l.length + 8 := by
  unfold styleL
  split
  · omega
  · show 8 ≤ _; omega

set_option maxRecDepth 100000 in
set_option maxHeartbeats 3200000 in
theorem csslexHoles_any (a b s t : ByteArray) (w : World) (hs : a.size + b.size + s.size + t.size ≤ 1048576) (hm : MaxAt w) :
    Calls Try.prog 6 #[.string a, .string b, .string s, .string t] w fun e w' => e = .returned (.bool true) ∧ Below w.heap.size w w' := by
  have Hm := hid hm
  clear hm
  have Hfa := hid (fun W => refFeed3_any 0 ⟨#[]⟩ a W (by omega))
  have Hfb := hid (fun W => refFeed3_any 0 ⟨#[63]⟩ b W (by omega))
  have Hss := hid (fun W => refStyle_any s W (by omega))
  have Hst := hid (fun W => refStyle_any t W (by omega))
  have HS := hid hs
  go_enter Try.func6, Try.ntmps6
  go_wp2_with fail
  refine (alive39_any _ Hm.out).mono ?_
  rintro e w1 ⟨rfl, hb1⟩
  go_wp2_with fail
  refine (Hfa.out _).mono ?_
  rintro e w2 ⟨p, wp, rfl, hp, _, hb2⟩
  have hb12 := then_ hb1 hb2
  clear hb1 hb2
  go_wp2_with fail
  refine (Hfb.out _).mono ?_
  rintro e w3 ⟨q, wq, rfl, hq, _, hb3⟩
  have hb13 := then_ hb12 hb3
  clear hb12 hb3 Hfa Hfb
  by_cases hp0 : p = 0
  · by_cases hq9 : q = 9
    · subst hp0 hq9
      go_wp2
      go_ret
      exact ⟨by first | rfl | simp, hb13⟩
    · have hqb : (q == 9) = false := beq_eq_false_iff_ne.2 hq9
      subst hp0
      have HQ := hid (show (cFeed 0 [63] b.data.toList).1 ≠ 9 from fun h => hq9 (hq.out.trans h))
      have HP := hid (show (cFeed 0 [] a.data.toList).1 = 0 from hp.out.symm)
      clear hq9 hp hq
      go_wp2_with fail
      refine (Hss.out _).mono ?_
      rintro e w4 ⟨x, rfl, hx, hb4⟩
      have hb14 := then_ hb13 hb4
      clear hb13 hb4 Hss
      have hx8 : x.size ≤ s.size + 8 := by
        have := style_len s.data.toList
        rw [← hx.out, len_data, len_data] at this
        exact this
      have Hz1 := hid (show (a ++ x ++ b).size ≤ 1048600 by
        have := style_len s.data.toList
        rw [← hx.out, len_data, len_data] at this
        have hs := HS.out
        rw [← len_data, data_append, data_append]; simp only [List.length_append, len_data]; omega)
      go_wp2_with fail
      refine (pieces_any _ _ Hz1.out (Hm.out.keep hb14)).mono ?_
      rintro e w5 ⟨A1, n1, c1, a1, e1, rfl, hn1, _, he1, hO1, hb5⟩
      have hb15 := then_ hb14 hb5
      have HM5 := hid (Hm.out.keep hb15)
      have hO1' := hid hO1.out.pvs
      clear hb14 hb5 hO1
      go_wp2_with fail
      refine (Hst.out _).mono ?_
      rintro e w6 ⟨y, rfl, hy, hb6⟩
      have hb16 := then_ hb15 hb6
      have hy8 : y.size ≤ t.size + 8 := by
        have := style_len t.data.toList
        rw [← hy.out, len_data, len_data] at this
        exact this
      have Hz2 := hid (show (a ++ y ++ b).size ≤ 1048600 by
        have := style_len t.data.toList
        rw [← hy.out, len_data, len_data] at this
        have hs := HS.out
        rw [← len_data, data_append, data_append]; simp only [List.length_append, len_data]; omega)
      go_wp2_with fail
      refine (pieces_any _ _ Hz2.out (Hm.out.keep hb16)).mono ?_
      rintro e w7 ⟨A2, n2, c2, a2, e2, rfl, hn2, _, he2, hO2, hb7⟩
      have hb17 := then_ hb16 hb7
      have hb57 := then_ hb6 hb7
      have hO2' := hid hO2.out.pvs
      have hL := pieces_holes a.data.toList b.data.toList x.data.toList y.data.toList HP.out HQ.out (by rw [hx.out]; exact style_ok _) (by rw [hy.out]; exact style_ok _)
      have ex : (a ++ x ++ b).data.toList = a.data.toList ++ x.data.toList ++ b.data.toList := by rw [data_append, data_append]
      have ey : (a ++ y ++ b).data.toList = a.data.toList ++ y.data.toList ++ b.data.toList := by rw [data_append, data_append]
      rw [← ex, ← ey, ← he1.out, ← he2.out] at hL
      clear hb16 hb6 hb7 hO2 ex ey Hst Hz1 Hz2 hb15
      rcases hL with ⟨z1, z2, hfr⟩ | ⟨hnot, hor⟩
      · subst z1 z2
        have HFR := hid (show frV ((pieces (a ++ x ++ b).data.toList).1.map pv) = frV ((pieces (a ++ y ++ b).data.toList).1.map pv) by rw [frV_pv, frV_pv, hfr])
        have hlen1 : n1 ≤ 4096 := by rw [← hn1.out]; exact pieces_len _
        have hlen2 : n2 ≤ 4096 := by rw [← hn2.out]; exact pieces_len _
        obtain ⟨L1, hL1⟩ : ∃ L, (pieces (a ++ x ++ b).data.toList).1.map pv = L := ⟨_, rfl⟩
        obtain ⟨L2, hL2⟩ : ∃ L, (pieces (a ++ y ++ b).data.toList).1.map pv = L := ⟨_, rfl⟩
        have hm1 : L1.length = n1 := by rw [← hL1, List.length_map]; exact hn1.out
        have hm2 : L2.length = n2 := by rw [← hL2, List.length_map]; exact hn2.out
        rw [hL1, hL2] at HFR
        rw [hL1] at hO1'
        rw [hL2] at hO2'
        have Hf1 := hid (fun (W : World) (hb : Below w7.heap.size w7 W) => frame_any A1 c1 L1 W (by omega) w5.heap.size ((hO1'.out.reads hm1).below ((hb57.trans (hb.mono hb57.size)))) (Nat.le_trans hb57.size hb.size))
        have Hf2 := hid (fun (W : World) (hb : Below w7.heap.size w7 W) => frame_any A2 c2 L2 W (by omega) w7.heap.size ((hO2'.out.reads hm2).below hb) hb.size)
        rw [hm1] at Hf1
        rw [hm2] at Hf2
        rw [HFR.out] at Hf1
        have hfl := frV_len L2
        rw [hm2] at hfl
        clear hL1 hL2 hm1 hm2 hO1' hO2' hb57 he1 he2 hn1 hn2 hfr HFR
        generalize frV L2 = L at Hf1 Hf2 hfl
        go_wp2_with fail
        refine (Hf1.out _ (Below.refl _ _)).mono ?_
        rintro e w8 ⟨A3, m3, c3, rfl, hm3, hO3, hb8⟩
        go_wp2_with fail
        refine (Hf2.out _ hb8).mono ?_
        rintro e w9 ⟨A4, m4, c4, rfl, hm4, hO4, hb9⟩
        obtain rfl : m3 = m4 := by rw [← hm3.out, hm4.out]
        have hb19 := then_ (then_ hb17 hb8) hb9
        have HO3 := hid (hO3.out.keep hb9)
        rw [hm3.out] at hfl
        clear hO3 hb8 hb9 hb17 Hf1 Hf2
        go_wp2
        go_loopw [21] (fun z wq => ∃ j : Nat, j ≤ m3 ∧ z = .int .i64 j ∧ Below w9.heap.size w9 wq) (fun z _ => m3 - (intOf z).toNat)
        case atStart => exact ⟨0, Nat.zero_le _, rfl, Below.refl _ _⟩
        case round =>
          obtain ⟨j, hj, rfl, hbq⟩ := hrel
          by_cases hjk : j < m3
          · have hjl : j < L.length := by rw [hm3.out]; exact hjk
            obtain ⟨ad3, rfl, hbl3, hc0, hc1, hc2⟩ := PvsAt.at_ ((HO3.out.keep hbq).reads hm3.out) hjl
            obtain ⟨ad2, rfl, hbl2, hd0, hd1, hd2⟩ := PvsAt.at_ ((hO4.out.keep hbq).reads hm4.out) hjl
            obtain ⟨q, hq⟩ : ∃ q : Pv, L[j] = q := ⟨_, rfl⟩
            rw [hq] at hc0 hc1 hc2 hd0 hd1 hd2
            obtain ⟨qk, qx, qa⟩ := q
            simp only at hc0 hc1 hc2 hd0 hd1 hd2
            clear hq hjl
            have hss := str_self qx
            have hk0 : (0 : Int) ≤ (j : Int) := by omega
            have hk1 : (j : Int) < (m3 : Int) := by omega
            have hk2 : decide ((m3 : Int) ≤ (j : Int)) = false := decide_eq_false (by omega)
            have hk3 : decide (m3 ≤ j) = false := decide_eq_false (by omega)
            go_wp2_with (go_quiet (fail))
            go_roundw
            case rel => exact ⟨j + 1, by omega, by go_num, below_drewN hbq _⟩
            case measure => simp [intOf]; omega
          · obtain rfl : j = m3 := by omega
            go_wp2
            go_ret
            exact ⟨by first | rfl | simp, then_ hb19 hbq⟩
      · clear he1 he2 hn1 hn2 hO1' hO2' hb57
        rcases hor with rfl | rfl | rfl | rfl | rfl
        · have hz : ¬ e1 = 0 := fun h => hnot ⟨h, h⟩
          clear hnot
          go_wp2
          all_goals go_ret
          all_goals exact ⟨by first | rfl | simp, hb17⟩
        · clear hnot
          go_wp2
          all_goals go_ret
          all_goals exact ⟨by first | rfl | simp, hb17⟩
        · clear hnot
          go_wp2
          all_goals go_ret
          all_goals exact ⟨by first | rfl | simp, hb17⟩
        · clear hnot
          go_wp2
          all_goals go_ret
          all_goals exact ⟨by first | rfl | simp, hb17⟩
        · clear hnot
          go_wp2
          all_goals go_ret
          all_goals exact ⟨by first | rfl | simp, hb17⟩
  · have hpb : (p == 0) = false := beq_eq_false_iff_ne.2 hp0
    go_wp2
    go_ret
    exact ⟨by first | rfl | simp, hb13⟩
end Go.Proofs.Ytkfijdccemblmaa
