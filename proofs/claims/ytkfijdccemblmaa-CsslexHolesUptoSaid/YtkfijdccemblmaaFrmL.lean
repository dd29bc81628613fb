/- CsslexFrame: what it returns. -/
import Derived.Test.YtkfijdccemblmaaFrm
import Derived.Test.YtkfijdccemblmaaLexD
set_option linter.unusedVariables false
namespace Go.Proofs.Ytkfijdccemblmaa
open Go.RowKit

theorem frV_append (a b : List Pv) : frV (a ++ b) = frV a ++ frV b := by simp [frV]
theorem frV_yes (p : Pv) (f : List Pv) (h : frB p = true) : frV (p :: f) = { p with a := 0 } :: frV f := by simp [frV, h]
theorem frV_mem (l : List Pv) : ∀ p ∈ frV l, p.a = 0 ∧ frB p = true := by
  intro p hp
  unfold frV at hp
  rw [List.mem_map] at hp
  obtain ⟨q, hq, rfl⟩ := hp
  exact ⟨rfl, (List.mem_filter.1 hq).2⟩
theorem frV_frV (l : List Pv) : frV (frV l) = frV l := by
  have h := frV_mem l
  generalize frV l = f at h
  induction f with
  | nil => rfl
  | cons p f ih =>
    have h1 := h p (by simp)
    have h2 := ih (fun q hq => h q (by simp [hq]))
    obtain ⟨k, x, a⟩ := p
    obtain ⟨rfl, h3⟩ := h1
    have e : frV (⟨k, x, 0⟩ :: f) = ⟨k, x, 0⟩ :: frV f := by simp [frV, h3]
    rw [e, h2]
theorem frV_at (l : List Pv) (i : Nat) (hi : i < l.length) (h : frB l[i] = true) : (frV l)[(frV (l.take i)).length]? = some { l[i] with a := 0 } := by
  have e : l = l.take i ++ l[i] :: l.drop (i + 1) := by rw [← List.drop_eq_getElem_cons hi, List.take_append_drop]
  have e2 : frV l = frV (l.take i) ++ ({ l[i] with a := 0 } :: frV (l.drop (i + 1))) := by
    conv => lhs; rw [e]
    rw [frV_append, frV_yes _ _ h]
  rw [e2, List.getElem?_append_right (Nat.le_refl _), Nat.sub_self]
  rfl
/-- so many are of the frame ahead of place i -/
def cnt (l : List Pv) (i : Nat) : Nat := (frV (l.take i)).length
theorem cnt_le (l : List Pv) (i : Nat) : cnt l i ≤ (frV l).length := by
  unfold cnt
  conv => rhs; rw [← List.take_append_drop i l, frV_append]
  simp
theorem cnt_all (l : List Pv) : cnt l l.length = (frV l).length := by unfold cnt; rw [List.take_length]
theorem cnt_no (l : List Pv) (i k : Nat) (hi : i < l.length) (hk : k < (frV l).length) (hc : cnt l i ≤ k) (hne : ¬ ((frV l)[k].k = l[i].k ∧ (frV l)[k].x = l[i].x)) : cnt l (i + 1) ≤ k := by
  have h := frV_take l i hi
  unfold cnt at hc ⊢
  rw [h]
  by_cases hb : frB l[i] = true
  · rw [if_pos hb, List.length_append, List.length_singleton]
    rcases Nat.lt_or_ge (frV (l.take i)).length k with h1 | h1
    · omega
    · exfalso
      have h2 := frV_at l i hi hb
      rw [show (frV (l.take i)).length = k by omega, List.getElem?_eq_getElem hk] at h2
      have h3 := Option.some.inj h2
      exact hne (by rw [h3]; exact ⟨rfl, rfl⟩)
  · rw [if_neg hb]; exact hc
theorem cnt_yes (l : List Pv) (i k : Nat) (hi : i < l.length) (hc : cnt l i ≤ k) : cnt l (i + 1) ≤ k + 1 := by
  have h := frV_take l i hi
  unfold cnt at hc ⊢
  rw [h]
  split
  · rw [List.length_append, List.length_singleton]; omega
  · omega

set_option maxRecDepth 100000 in
set_option maxHeartbeats 3200000 in
theorem csslexFrame_any (A : Option Addr) (cap : Nat) (l : List Pv) (w : World) (hn : l.length ≤ 1048576) (hR : PvsAt w w.heap.size A l) (hm : MaxAt w) :
    Calls Try.prog 5 #[.slice A l.length cap] w fun e w' => e = .returned (.bool true) ∧ Below w.heap.size w w' := by
  have HR := hid hR
  have Hm := hid hm
  clear hR hm
  have hfl := frV_len l
  have Hfr := hid (fun (W : World) (hb : Below w.heap.size w W) => frame_any A cap l W (by omega) w.heap.size (HR.out.below hb) hb.size)
  obtain ⟨n, hnn⟩ : ∃ n, l.length = n := ⟨_, rfl⟩
  have Hn := hid hnn
  rw [hnn] at hn Hfr hfl ⊢
  clear hnn
  go_enter Try.func5, Try.ntmps5
  go_wp2_with fail
  refine (alive39_any _ Hm.out).mono ?_
  rintro e w1 ⟨rfl, hb1⟩
  go_wp2_with fail
  refine (Hfr.out _ hb1).mono ?_
  rintro e w2 ⟨A2, m, cap2, rfl, hm2, hO2, hb2⟩
  have hbb2 := then_ hb1 hb2
  rw [hm2.out] at hfl
  go_wp2
  go_loopw [4, 5] (fun x y wr => ∃ (i k : Nat), i ≤ n ∧ k ≤ m ∧ x = .int .i64 k ∧ y = .int .i64 i ∧ Hid (cnt l i ≤ k) ∧ Below w2.heap.size w2 wr) (fun _ y _ => n - (intOf y).toNat)
  case atStart => exact ⟨0, 0, Nat.zero_le _, Nat.zero_le _, rfl, rfl, hid (by simp [cnt, frV]), Below.refl _ _⟩
  case round =>
    obtain ⟨i, k, hi, hk, rfl, rfl, hc, hbw⟩ := hrel
    have hbbw := then_ hbb2 hbw
    have HO := hid (hO2.out.keep hbw)
    have fin : i = n ∨ k = m → k = m := by
      rintro (h | h)
      · have h1 := hc.out
        rw [h, ← Hn.out, cnt_all, hm2.out] at h1
        omega
      · exact h
    have Hfin := hid fin
    clear fin
    by_cases hgo : i < n ∧ k < m
    · obtain ⟨hin, hkm⟩ := hgo
      · have hil : i < l.length := by rw [Hn.out]; exact hin
        have hkl : k < (frV l).length := by rw [hm2.out]; exact hkm
        obtain ⟨ad, rfl, hbl, hc0, hc1, hc2⟩ := PvsAt.at_ (w := wr) (B := w.heap.size) (A := A) (HR.out.below hbbw) hil
        obtain ⟨ad2, rfl, hbl2, hd0, hd1, hd2⟩ := PvsAt.at_ (HO.out.reads hm2.out) hkl
        have hq0 := (frV_mem l _ (List.getElem_mem hkl)).1
        have hno := cnt_no l i k hil hkl hc.out
        have hyes := cnt_yes l i k hil hc.out
        obtain ⟨p, hp⟩ : ∃ p : Pv, l[i] = p := ⟨_, rfl⟩
        obtain ⟨q, hq⟩ : ∃ q : Pv, (frV l)[k] = q := ⟨_, rfl⟩
        rw [hp] at hc0 hc1 hc2 hno
        rw [hq] at hd0 hd1 hd2 hq0 hno
        rw [hq0] at hd2
        have Hno := hid hno
        have Hyes := hid hyes
        obtain ⟨pk, px, pa⟩ := p
        obtain ⟨qk, qx, qa⟩ := q
        simp only at hc0 hc1 hc2 hd0 hd1 hd2
        clear hp hq hno hyes hq0 hil hkl
        have hi0 : (0 : Int) ≤ (i : Int) := by omega
        have hi1 : (i : Int) < (n : Int) := by omega
        have hk0 : (0 : Int) ≤ (k : Int) := by omega
        have hk1 : (k : Int) < (m : Int) := by omega
        by_cases h1 : pk = qk
        · by_cases h2 : px = qx
          · subst h1 h2
            have hss := str_self px
            go_wp2_with (go_quiet (fail))
            go_roundw
            case rel => exact ⟨i + 1, k + 1, by omega, by omega, by go_num, by go_num, hid Hyes.out, below_drewN hbw _⟩
            case measure => simp [intOf]; omega
          · subst h1
            have hss : (px.toList == qx.toList) = false := by
              rw [beq_eq_false_iff_ne]
              intro e
              rw [ByteArray.toList_eq, ByteArray.toList_eq] at e
              exact h2 (bytes_eq e)
            have Hc' := hid (Hno.out (fun h => h2 h.2.symm))
            go_wp2_with (go_quiet (fail))
            go_roundw
            case rel => exact ⟨i + 1, k, by omega, by omega, rfl, by go_num, hid Hc'.out, below_drewN hbw _⟩
            case measure => simp [intOf]; omega
        · have hss : (pk == qk) = false := beq_eq_false_iff_ne.2 h1
          have Hc' := hid (Hno.out (fun h => h1 h.1.symm))
          go_wp2_with (go_quiet (fail))
          go_roundw
          case rel => exact ⟨i + 1, k, by omega, by omega, rfl, by go_num, hid Hc'.out, below_drewN hbw _⟩
          case measure => simp [intOf]; omega
    · have hkm : k = m := Hfin.out (by omega)
      subst hkm
      have hOf := hid ((HO.out.reads hm2.out))
      have Hg := hid (fun (W : World) (hb : Below wr.heap.size wr W) => frame_any A2 cap2 (frV l) W (by rw [hm2.out]; omega) wr.heap.size (hOf.out.below hb) hb.size)
      have hg2 := Hg.out
      rw [hm2.out, frV_frV] at hg2
      have Hg2 := hid hg2
      clear hg2 Hg hgo
      have hc3 := hid hc.out
      by_cases hin : i < n
      all_goals
        go_wp2_with fail
        refine (Hg2.out _ (Below.refl _ _)).mono ?_
        rintro e w3 ⟨A3, m3, cap3, rfl, hm3, hO3, hb3⟩
        obtain rfl : k = m3 := by rw [← hm3.out, hm2.out]
        have hbb3 := then_ hbbw hb3
        have HOf3 := hid (hO2.out.keep (then_ hbw hb3))
        go_wp2
        go_loopw [7] (fun z wq => ∃ j : Nat, j ≤ k ∧ z = .int .i64 j ∧ Below w3.heap.size w3 wq) (fun z _ => k - (intOf z).toNat)
        case atStart => exact ⟨0, Nat.zero_le _, rfl, Below.refl _ _⟩
        case round =>
          obtain ⟨j, hj, rfl, hbq⟩ := hrel
          by_cases hjk : j < k
          · have hjl : j < (frV l).length := by rw [hm2.out]; exact hjk
            obtain ⟨ad3, rfl, hbl3, hc0, hc1, hc2⟩ := PvsAt.at_ ((hO3.out.keep hbq).reads hm3.out) hjl
            obtain ⟨ad2, rfl, hbl2, hd0, hd1, hd2⟩ := PvsAt.at_ ((HOf3.out.keep hbq).reads hm2.out) hjl
            obtain ⟨q, hq⟩ : ∃ q : Pv, (frV l)[j] = q := ⟨_, rfl⟩
            rw [hq] at hc0 hc1 hc2 hd0 hd1 hd2
            obtain ⟨qk, qx, qa⟩ := q
            simp only at hc0 hc1 hc2 hd0 hd1 hd2
            clear hq hjl
            have hss := str_self qx
            have hk0 : (0 : Int) ≤ (j : Int) := by omega
            have hk1 : (j : Int) < (k : Int) := by omega
            have hk2 : decide ((k : Int) ≤ (j : Int)) = false := decide_eq_false (by omega)
            have hk3 : decide (k ≤ j) = false := decide_eq_false (by omega)
            go_wp2_with (go_quiet (fail))
            go_roundw
            case rel => exact ⟨j + 1, by omega, by go_num, below_drewN hbq _⟩
            case measure => simp [intOf]; omega
          · obtain rfl : j = k := by omega
            go_wp2
            go_ret
            exact ⟨by first | rfl | simp, then_ hbb3 hbq⟩
end Go.Proofs.Ytkfijdccemblmaa
