/- muslinlaw34.count: what the law counts. -/
import Derived.Test.YthhaannlbkgefaaNdsR
set_option linter.unusedVariables false
namespace Go.Proofs.Ythhaannlbkgefaa
open Go.RowKit

set_option maxRecDepth 100000 in
set_option maxHeartbeats 1600000 in
theorem count_key : ∀ (m : Nat) (l : List Nd), ndsNum l = m → ndsNum l ≤ 1048576 → (ndsSz l).1 < 2 ^ 50 → (ndsSz l).2 < 2 ^ 50 → ∀ (A : Option Addr) (cap : Nat) (w : World) (B : Nat), NdsAt w B A 0 l →
    Calls Try.prog 11 #[.slice A l.length cap] w fun e w' => e = .returned (.tuple #[.int .i64 ((ndsSz l).1 : Int), .int .i64 ((ndsSz l).2 : Int)]) ∧ w = w' := by
  intro m
  induction m using Nat.strongRecOn with
  | ind m ih =>
    intro l hnum hm hs1 hs2 A cap w B hR
    have hlen := ndsNum_len l
    have HR := hid hR
    have Hle := hid (ndsSz_le l)
    have Htk := hid (ndsSz_take l)
    have Hat := hid (ndsNum_at l)
    have IH := hid ih
    clear hR ih
    obtain ⟨n, hnn⟩ : ∃ n, l.length = n := ⟨_, rfl⟩
    have Hn := hid hnn
    have hnb : n ≤ 1048576 := by omega
    rw [hnn]
    clear hnn hlen
    go_enter Try.func11, Try.ntmps11
    go_wp2
    go_loop [4, 5, 6] (fun a b i => ∃ k : Nat, k ≤ n ∧ i = .int .i64 k ∧ a = .int .i64 ((ndsSz (l.take k)).1 : Int) ∧ b = .int .i64 ((ndsSz (l.take k)).2 : Int)) (fun _ _ i => n - (intOf i).toNat)
    case atStart => exact ⟨0, Nat.zero_le _, rfl, by rw [List.take_zero]; rfl, by rw [List.take_zero]; rfl⟩
    case round =>
      obtain ⟨k, hk, rfl, rfl, rfl⟩ := hrel
      by_cases hlt : k < n
      · have hkl : k < l.length := by rw [Hn.out]; exact hlt
        obtain ⟨ad, rfl, hnd⟩ := NdsAt.at_ l 0 k hkl HR.out
        rw [Nat.zero_add] at hnd
        have hat := Hat.out k hkl
        have htk := Htk.out k hkl
        have hle := Hle.out (k + 1)
        obtain ⟨p, hp⟩ : ∃ p, l[k] = p := ⟨_, rfl⟩
        rw [hp] at hnd hat htk
        obtain ⟨kd, x, b, e⟩ := p
        unfold NdAt at hnd
        obtain ⟨h0, c0, c1, nm, Ap, np, cp, Ab, cb, Ae, ce, v6, v7, v8, c2, c3, c4, c5, c6, c7, c8, hb, he⟩ := hnd
        simp only [Nd.num] at hat
        rw [htk] at hle
        simp only [Nd.sz] at hle htk
        have Hbb := hid (IH.out (ndsNum b) (by omega) b rfl (by omega) (by omega) (by omega) Ab cb w B hb)
        have Hee := hid (IH.out (ndsNum e) (by omega) e rfl (by omega) (by omega) (by omega) Ae ce w B he)
        obtain ⟨nb, hnb'⟩ : ∃ nb, b.length = nb := ⟨_, rfl⟩
        obtain ⟨ne, hne'⟩ : ∃ ne, e.length = ne := ⟨_, rfl⟩
        rw [hnb'] at c4 Hbb
        rw [hne'] at c5 Hee
        clear hnb' hne' hp hkl hb he hat c2 c3 c6 c7 c8
        obtain ⟨⟨q1, q2⟩, hq⟩ : ∃ q, ndsSz (l.take k) = q := ⟨_, rfl⟩
        obtain ⟨⟨b1, b2⟩, hpb⟩ : ∃ pb, ndsSz b = pb := ⟨_, rfl⟩
        obtain ⟨⟨e1, e2⟩, hpe⟩ : ∃ pe, ndsSz e = pe := ⟨_, rfl⟩
        rw [hpb, hpe, hq] at hle htk
        rw [hpb] at Hbb
        rw [hpe] at Hee
        rw [hq]
        simp only at hle htk
        have hzz : x.size ≤ 1099511627776 := h0.2
        have HT := hid htk
        by_cases k1 : kd = 1
        · subst k1
          simp only [oneP] at hle htk
          have HT := hid htk
          clear htk hq hpb hpe h0
          go_wp2_with fail
          refine (Hbb.out).mono ?_
          rintro e' w' ⟨rfl, rfl⟩
          go_wp2_with fail
          refine (Hee.out).mono ?_
          rintro e' w' ⟨rfl, rfl⟩
          go_wp2
          go_round
          case rel => exact ⟨k + 1, by omega, by go_num, by rw [HT.out]; go_num, by rw [HT.out]; go_num⟩
          case measure => simp [intOf]; omega
        · have kb1 : (kd == 1) = false := beq_eq_false_iff_ne.2 k1
          by_cases k2 : kd = 2
          · subst k2
            simp only [oneP, if_neg (show ¬ (2 : Int) = 1 by decide)] at hle htk
            have HT := hid htk
            clear htk hq hpb hpe h0
            go_wp2_with fail
            refine (Hbb.out).mono ?_
            rintro e' w' ⟨rfl, rfl⟩
            go_wp2_with fail
            refine (Hee.out).mono ?_
            rintro e' w' ⟨rfl, rfl⟩
            go_wp2
            go_round
            case rel => exact ⟨k + 1, by omega, by go_num, by rw [HT.out]; go_num, by rw [HT.out]; go_num⟩
            case measure => simp [intOf]; omega
          · have kb2 : (kd == 2) = false := beq_eq_false_iff_ne.2 k2
            simp only [oneP, if_neg k1, if_neg k2] at hle htk
            have HT := hid htk
            clear htk hq hpb hpe h0
            go_wp2_with fail
            refine (Hbb.out).mono ?_
            rintro e' w' ⟨rfl, rfl⟩
            go_wp2_with fail
            refine (Hee.out).mono ?_
            rintro e' w' ⟨rfl, rfl⟩
            go_wp2
            go_round
            case rel => exact ⟨k + 1, by omega, by go_num, by rw [HT.out]; go_num, by rw [HT.out]; go_num⟩
            case measure => simp [intOf]; omega
      · obtain rfl : k = n := by omega
        have hall : Hid (l.take k = l) := hid (List.take_of_length_le (by rw [Hn.out]; exact Nat.le_refl _))
        rw [hall.out]
        go_wp2
        go_ret2
        exact ⟨rfl, rfl⟩
theorem count_any (l : List Nd) (hm : ndsNum l ≤ 1048576) (hs1 : (ndsSz l).1 < 2 ^ 50) (hs2 : (ndsSz l).2 < 2 ^ 50) (A : Option Addr) (cap : Nat) (w : World) (B : Nat) (hR : NdsAt w B A 0 l) :
    Calls Try.prog 11 #[.slice A l.length cap] w fun e w' => e = .returned (.tuple #[.int .i64 ((ndsSz l).1 : Int), .int .i64 ((ndsSz l).2 : Int)]) ∧ w = w' := count_key _ l rfl hm hs1 hs2 A cap w B hR
end Go.Proofs.Ythhaannlbkgefaa
