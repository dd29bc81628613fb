/- CsslexTexts: what it returns. -/
import Derived.Test.YtkfijdccemblmaaLexD
import Derived.Test.YtkfijdccemblmaaLexF
set_option linter.unusedVariables false
namespace Go.Proofs.Ytkfijdccemblmaa
open Go.RowKit

theorem bad_int (n : Int) (h0 : 0 ≤ n) (h1 : n ≤ 255) : badB (bOf n) = (n == 10 || n == 13 || n == 92 || n == 34 || n == 42 || n == 41) :=
  bytes_all (p := fun c n => badB c = (n == 10 || n == 13 || n == 92 || n == 34 || n == 42 || n == 41)) (by decide +kernel) n h0 h1

/-- one piece of a kind -/
def ROne (w : World) (kd : Int) (e : Ending) (w' : World) : Prop := ∃ (g cap : Nat) (a : Int), e = .returned (.tuple #[.slice (some ⟨g, 0, none⟩) 1 cap, .int .i64 a, .int .i64 0]) ∧ Hid (∃ l : List Pc, OwnP w' w.heap.size (.slice (some ⟨g, 0, none⟩) 1 cap) l ∧ ∃ p, l = [p] ∧ p.k = kd) ∧ Below w.heap.size w w'
theorem one_piece (t : ByteArray) (w : World) (p : Pc) (a : Nat) (hs : t.size ≤ 65536) (hp : pcsT t.data.toList 0 [] = ([p], a, 0)) (hm : MaxAt w) :
    Calls Try.prog 8 #[.string t] w (ROne w p.k) := by
  refine (pieces_any t w (by omega) hm).mono ?_
  rintro e w' ⟨A, n, cap, a', er, rfl, hn, ha, her, hO, hb⟩
  have hP : pieces t.data.toList = ([p], a, 0) := by unfold pieces; rw [if_pos (by rw [len_data]; exact hs), hp]
  have hn2 := hn.out
  have he2 := her.out
  have hO2 := hO.out
  rw [hP] at hn2 he2 hO2
  obtain rfl : n = 1 := hn2.symm
  obtain rfl : er = 0 := he2
  obtain ⟨g, rfl, _⟩ := OwnP.cell hO2 (k := 0) (by simp)
  exact ⟨g, cap, a', rfl, hid ⟨[p], hO2, p, rfl, rfl⟩, hb⟩
theorem one_cell {w w' : World} {g cap : Nat} {kd : Int} {B : Nat} (h : ∃ l : List Pc, OwnP w B (.slice (some ⟨g, 0, none⟩) 1 cap) l ∧ ∃ p, l = [p] ∧ p.k = kd) (hb : Below w.heap.size w w') : w'.cell? ⟨g, 0, none⟩ = some (.int .i64 kd) := by
  obtain ⟨l, hO, p, rfl, rfl⟩ := h
  obtain ⟨g', e, c0, _⟩ := OwnP.cell (hO.keep hb) (k := 0) (by simp)
  injection e with e
  injection e with e
  subst e
  simpa using c0

set_option maxRecDepth 100000 in
set_option maxHeartbeats 3200000 in
theorem csslexTexts_any (s : ByteArray) (w : World) (hs : s.size ≤ 1048576) (hm : MaxAt w) :
    Calls Try.prog 4 #[.string s] w fun e w' => e = .returned (.bool true) ∧ Below w.heap.size w w' := by
  have Hm := hid hm
  have Hlen := hid (len_data s)
  clear hm
  go_enter Try.func4, Try.ntmps4
  go_wp2_with fail
  refine (alive39_any _ Hm.out).mono ?_
  rintro e w1 ⟨rfl, hb1⟩
  have HM1 := hid (Hm.out.keep hb1)
  go_wp2
  go_loop [3] (fun i => ∃ k : Nat, k ≤ s.size ∧ i = .int .i64 k ∧ Hid (∀ c ∈ s.data.toList.take k, badB c = false)) (fun i => s.size - (intOf i).toNat)
  case atStart => exact ⟨0, Nat.zero_le _, rfl, hid (fun c h => by simp at h)⟩
  case round =>
    obtain ⟨k, hk, rfl, hp⟩ := hrel
    by_cases hlt : k < s.size
    · obtain ⟨n, hn, hn0, hn1, hbn⟩ := byte_of s k hlt
      have hbd := bad_int n hn0 hn1
      cases hbb : badB (bOf n) with
      | true =>
        rw [hbb] at hbd
        have hor : n = 10 ∨ n = 13 ∨ n = 92 ∨ n = 34 ∨ n = 42 ∨ n = 41 := by
          have := hbd.symm
          simp only [Bool.or_eq_true, beq_iff_eq] at this
          omega
        clear hbd hbb hbn
        rcases hor with rfl | rfl | rfl | rfl | rfl | rfl
        all_goals
          go_wp2
          go_ret
          exact ⟨rfl, hb1⟩
      | false =>
        rw [hbb] at hbd
        have hbd2 := hbd.symm
        simp only [Bool.or_eq_false_iff] at hbd2
        obtain ⟨⟨⟨⟨⟨h1, h2⟩, h3⟩, h4⟩, h5⟩, h6⟩ := hbd2
        have HB : Hid (badB (s[k]'hlt) = false) := hid (by rw [← hbn]; exact hbb)
        clear hbd hbb hbn
        go_wp2
        go_round
        case rel =>
          refine ⟨k + 1, by omega, by go_num, hid (fun c hc => ?_)⟩
          rw [take_one _ k (by rw [Hlen.out]; exact hlt), List.mem_append] at hc
          rcases hc with hc | hc
          · exact hp.out c hc
          · obtain rfl := List.mem_singleton.1 hc
            exact HB.out
        case measure => simp [intOf]; omega
    · obtain rfl : k = s.size := by omega
      have hp2 := hp.out
      rw [take_all] at hp2
      have Hp := hid hp2
      clear hp2 hp
      by_cases h6 : 60000 < s.size
      · have h6b : (60000 : Int) < s.size := by omega
        go_wp2
        go_ret
        exact ⟨rfl, hb1⟩
      · have h6b : ¬ (60000 : Int) < s.size := by omega
        have e1 : (⟨#[34]⟩ ++ s ++ ⟨#[34]⟩ : ByteArray).data.toList = [34] ++ s.data.toList ++ [34] := by rw [data_append, data_append]
        have e2 : (⟨#[47, 42]⟩ ++ s ++ ⟨#[42, 47]⟩ : ByteArray).data.toList = [47, 42] ++ s.data.toList ++ [42, 47] := by rw [data_append, data_append]
        have e3 : (⟨#[32, 85, 82, 76, 40]⟩ ++ s ++ ⟨#[41]⟩ : ByteArray).data.toList = [32, 85, 82, 76, 40] ++ s.data.toList ++ [41] := by rw [data_append, data_append]
        have z1 : (⟨#[34]⟩ ++ s ++ ⟨#[34]⟩ : ByteArray).size ≤ 65536 := by
          rw [← len_data, e1]; simp only [List.length_append, len_data, List.length_cons, List.length_nil]; omega
        have z2 : (⟨#[47, 42]⟩ ++ s ++ ⟨#[42, 47]⟩ : ByteArray).size ≤ 65536 := by
          rw [← len_data, e2]; simp only [List.length_append, len_data, List.length_cons, List.length_nil]; omega
        have z3 : (⟨#[32, 85, 82, 76, 40]⟩ ++ s ++ ⟨#[41]⟩ : ByteArray).size ≤ 65536 := by
          rw [← len_data, e3]; simp only [List.length_append, len_data, List.length_cons, List.length_nil]; omega
        have HA := hid (fun W h => one_piece (⟨#[34]⟩ ++ s ++ ⟨#[34]⟩) W _ _ z1 (by rw [e1]; exact one_text _ Hp.out) h)
        have HB := hid (fun W h => one_piece (⟨#[47, 42]⟩ ++ s ++ ⟨#[42, 47]⟩) W _ _ z2 (by rw [e2]; exact one_remark _ Hp.out) h)
        have HC := hid (fun W h => one_piece (⟨#[32, 85, 82, 76, 40]⟩ ++ s ++ ⟨#[41]⟩) W _ _ z3 (by rw [e3]; exact one_url _ Hp.out) h)
        clear e1 e2 e3 z1 z2 z3
        go_wp2_with fail
        refine (HA.out _ HM1.out).mono ?_
        rintro e w2 ⟨g1, c1, a1, rfl, hO1, hb2⟩
        have HM2 := hid (HM1.out.keep hb2)
        go_wp2_with fail
        refine (HB.out _ HM2.out).mono ?_
        rintro e w3 ⟨g2, c2, a2, rfl, hO2, hb3⟩
        have HM3 := hid (HM2.out.keep hb3)
        go_wp2_with fail
        refine (HC.out _ HM3.out).mono ?_
        rintro e w4 ⟨g3, c3, a3, rfl, hO3, hb4⟩
        have d1 : w4.cell? ⟨g1, 0, none⟩ = some (.int .i64 2) := one_cell hO1.out (then_ hb3 hb4)
        have d2 : w4.cell? ⟨g2, 0, none⟩ = some (.int .i64 3) := one_cell hO2.out hb4
        have d3 : w4.cell? ⟨g3, 0, none⟩ = some (.int .i64 4) := one_cell hO3.out (Below.refl _ _)
        go_wp2
        go_ret
        exact ⟨by first | rfl | simp, then_ (then_ (then_ hb1 hb2) hb3) hb4⟩
end Go.Proofs.Ytkfijdccemblmaa
