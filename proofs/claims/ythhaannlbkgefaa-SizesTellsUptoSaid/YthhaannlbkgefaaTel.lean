/- SizesTells: what it returns. -/
import Derived.Test.YthhaannlbkgefaaSizB
import Derived.Test.YthhaannlbkgefaaUns
set_option linter.unusedVariables false
namespace Go.Proofs.Ythhaannlbkgefaa
open Go.RowKit

theorem flatL_take (l : List Nd) (k : Nat) (h : k < l.length) : flatL (l.take (k + 1)) = (flatL (l.take k) && flatK l[k].kind) := by
  unfold flatL
  rw [List.take_succ_eq_append_getElem h, List.all_append]
  simp
theorem flatK_1 : flatK 1 = true := rfl
theorem flatK_2 : flatK 2 = true := rfl
theorem flatK_7 : flatK 7 = true := rfl
theorem flatK_no (k : Int) (h1 : k ≠ 1) (h2 : k ≠ 2) (h7 : k ≠ 7) : flatK k = false := by simp [flatK, h1, h2, h7]

set_option maxRecDepth 100000 in
set_option maxHeartbeats 3200000 in
theorem sizesTells_any (A A2 : Option Addr) (cap cap2 : Nat) (l : List Nd) (us : List (List Nd)) (w : World) (hm : ndsNum l ≤ 1048576) (h1 : (ndsSz l).1 ≤ 1048576) (h2 : (ndsSz l).2 ≤ 1048576)
    (hun : us.length ≤ 1048576) (hum : ndsNum us.flatten ≤ 1048576) (hu1 : (ndsSz us.flatten).1 ≤ 1048576) (hu2 : (ndsSz us.flatten).2 ≤ 1048576) (hR : NdsAt w w.heap.size A 0 l) (hU : UnsAt w w.heap.size A2 us) :
    Calls Try.prog 5 #[.slice A l.length cap, .slice A2 us.length cap2] w fun e w' => e = .returned (.bool true) ∧ Below w.heap.size w w' := by
  have Hct := hid (fun W (h : NdsAt W w.heap.size A 0 l) => count_any l hm (by omega) (by omega) A cap W w.heap.size h)
  have Hnd := hid (fun W (h : NdsAt W w.heap.size A 0 l) (hB : w.heap.size ≤ W.heap.size) => nodes_any l hm (by omega) (by omega) A cap W w.heap.size h hB)
  have Hun := hid (fun W (h : UnsAt W w.heap.size A2 us) (hB : w.heap.size ≤ W.heap.size) => units_any us hun hum hu1 hu2 A2 cap2 W w.heap.size h hB)
  have Hfl := hid (fun W (h : NdsAt W w.heap.size A 0 l) (hB : w.heap.size ≤ W.heap.size) => flat_any l hm A cap W w.heap.size h hB)
  have Ho1 := hid (fun w => octets_any (ndsSz l).1 (ndsSz l).2 (by omega) w)
  have Ha1 := hid (fun w => actions_any (ndsSz l).1 (ndsSz l).2 (by omega) w)
  have Ho2 := hid (fun w => octets_any (ndsSz us.flatten).1 (ndsSz us.flatten).2 (by omega) w)
  have Ha2 := hid (fun w => actions_any (ndsSz us.flatten).1 (ndsSz us.flatten).2 (by omega) w)
  have HR := hid hR
  have HU := hid hU
  have Hle := hid (uns_le us)
  have Htk := hid (uns_take us)
  have Hnum := hid (uns_num us)
  have Hft := hid (flatL_take l)
  have Hall1 := hid (fun k (h : us.length ≤ k) => (congrArg (fun u => ndsSz (List.flatten u)) (List.take_of_length_le h) : ndsSz (us.take k).flatten = ndsSz us.flatten))
  have Hall2 := hid (fun k (h : l.length ≤ k) => (congrArg flatL (List.take_of_length_le h) : flatL (l.take k) = flatL l))
  have hlen := ndsNum_len l
  clear hR hU
  unfold RNds at Hnd
  simp only [cV] at Hnd Hun
  obtain ⟨n, hnn⟩ : ∃ n, l.length = n := ⟨_, rfl⟩
  obtain ⟨m, hmm⟩ : ∃ m, us.length = m := ⟨_, rfl⟩
  have Hn := hid hnn
  have Hm := hid hmm
  rw [hnn] at hlen Hct Hnd Hfl ⊢
  rw [hmm] at hun Hun ⊢
  have hnb : n ≤ 1048576 := by omega
  clear hnn hmm hlen
  generalize hq : ndsSz l = q at *
  obtain ⟨q1, q2⟩ := q
  generalize hp : ndsSz us.flatten = p at *
  obtain ⟨p1, p2⟩ := p
  generalize hz : flatL l = z at *
  simp only at h1 h2 hu1 hu2 Hct Hnd Hun Ho1 Ho2 Ha1 Ha2
  generalize fW (q1 : Int) = a1 at *
  generalize fW (q2 : Int) = a2 at *
  generalize fW (p1 : Int) = b1 at *
  generalize fW (p2 : Int) = b2 at *
  clear hq hp hz
  go_enter Try.func5, Try.ntmps5
  go_wp2_with fail
  refine (Hct.out _ HR.out).mono ?_
  rintro e w1 ⟨rfl, rfl⟩
  go_wp2_with fail
  refine (Hnd.out _ HR.out (Nat.le_refl _)).mono ?_
  rintro e w1 ⟨rfl, hb1⟩
  have HU1 := hid (HU.out.keep (w' := w1) (fun p hp => hb1.cell hp))
  go_wp2_with fail
  go_loop [8, 9, 10] (fun x y i => ∃ k : Nat, k ≤ m ∧ i = .int .i64 k ∧ x = .int .i64 ((ndsSz (us.take k).flatten).1 : Int) ∧ y = .int .i64 ((ndsSz (us.take k).flatten).2 : Int)) (fun _ _ i => m - (intOf i).toNat)
  case atStart => exact ⟨0, Nat.zero_le _, rfl, by rw [List.take_zero]; rfl, by rw [List.take_zero]; rfl⟩
  case round =>
    obtain ⟨k, hk, rfl, rfl, rfl⟩ := hrel
    by_cases hlt : k < m
    · have hkl : k < us.length := by rw [Hm.out]; exact hlt
      obtain ⟨ad, rfl, hnd⟩ := HU1.out k hkl
      have htk := Htk.out k hkl
      have hle := Hle.out (k + 1)
      have hnum := Hnum.out k hkl
      obtain ⟨b, hb⟩ : ∃ b, us[k] = b := ⟨_, rfl⟩
      rw [hb] at hnd htk hnum
      rw [htk] at hle
      obtain ⟨h0, hsp, cs, h18, h1c, hr, Ab, cb, h17, hbn⟩ := hnd
      obtain ⟨g, o, hgo⟩ : ∃ g o, ad.add (k * 18) = ⟨g, o, none⟩ := ⟨_, _, by rw [← hsp]⟩
      rw [hgo] at hr
      have hc17 := hr 17 _ h17
      simp only at hle hc17
      have Hcb := hid (count_any b (by omega) (by omega) (by omega) Ab cb w1 w.heap.size hbn)
      obtain ⟨nb, hnb'⟩ : ∃ nb, b.length = nb := ⟨_, rfl⟩
      rw [hnb'] at hc17 Hcb
      obtain ⟨⟨r1, r2⟩, hrr⟩ : ∃ r, ndsSz b = r := ⟨_, rfl⟩
      obtain ⟨⟨x1, x2⟩, hxx⟩ : ∃ r, ndsSz (us.take k).flatten = r := ⟨_, rfl⟩
      rw [hrr] at htk hle Hcb
      rw [hxx] at htk hle ⊢
      simp only at htk hle
      have HT := hid htk
      clear htk hrr hxx hnb' hb hr h17 h18 h1c hbn h0 hsp hnum hkl
      go_wp2_with fail
      refine Hcb.out.mono ?_
      rintro e' w' ⟨rfl, rfl⟩
      go_wp2
      go_round
      case rel => exact ⟨k + 1, by omega, by go_num, by rw [HT.out]; go_num, by rw [HT.out]; go_num⟩
      case measure => simp [intOf]; omega
    · obtain rfl : k = m := by omega
      have hall : Hid (ndsSz (us.take k).flatten = (p1, p2)) := hid (Hall1.out k (by rw [Hm.out]; exact Nat.le_refl _))
      rw [hall.out]
      clear Htk Hle Hnum Hall1 hall
      go_wp2_with fail
      refine (Hun.out _ HU1.out hb1.size).mono ?_
      rintro e' w2 ⟨rfl, hb2⟩
      have hb12 := then_ hb1 hb2
      clear hb1 hb2 HU1 HU Hun
      have HR2 := hid (NdsAt.keep (w' := w2) (fun p hp => hb12.cell hp) l A 0 HR.out)
      go_wp2_with fail
      go_loop [14, 15] (fun f i => ∃ k : Nat, k ≤ n ∧ i = .int .i64 k ∧ f = .bool (flatL (l.take k))) (fun _ i => n - (intOf i).toNat)
      case atStart => exact ⟨0, Nat.zero_le _, rfl, rfl⟩
      case round =>
        obtain ⟨j, hj, rfl, rfl⟩ := hrel
        by_cases hjt : j < n
        · have hjl : j < l.length := by rw [Hn.out]; exact hjt
          obtain ⟨ad2, rfl, hnd⟩ := NdsAt.at_ l 0 j hjl HR2.out
          rw [Nat.zero_add] at hnd
          have hft := Hft.out j hjl
          obtain ⟨p, hp⟩ : ∃ p, l[j] = p := ⟨_, rfl⟩
          rw [hp] at hnd hft
          obtain ⟨kd, x, b, e⟩ := p
          unfold NdAt at hnd
          have c0 := hnd.2.1
          simp only [Nd.kind] at hft
          obtain ⟨f, hf⟩ : ∃ f, flatL (l.take j) = f := ⟨_, rfl⟩
          rw [hf] at hft ⊢
          have HF := hid hft
          clear hnd hft hf hp hjl
          cases f with
          | false =>
            go_wp2
            go_round
            case rel => exact ⟨j + 1, by omega, by go_num, by rw [HF.out]; rfl⟩
            case measure => simp [intOf]; omega
          | true =>
            by_cases k1 : kd = 1
            · subst k1
              go_wp2
              go_round
              case rel => exact ⟨j + 1, by omega, by go_num, by rw [HF.out]; rfl⟩
              case measure => simp [intOf]; omega
            · have kb1 : (kd == 1) = false := beq_eq_false_iff_ne.2 k1
              by_cases k2 : kd = 2
              · subst k2
                go_wp2
                go_round
                case rel => exact ⟨j + 1, by omega, by go_num, by rw [HF.out]; rfl⟩
                case measure => simp [intOf]; omega
              · have kb2 : (kd == 2) = false := beq_eq_false_iff_ne.2 k2
                by_cases k7 : kd = 7
                · subst k7
                  go_wp2
                  go_round
                  case rel => exact ⟨j + 1, by omega, by go_num, by rw [HF.out]; rfl⟩
                  case measure => simp [intOf]; omega
                · have kb7 : (kd == 7) = false := beq_eq_false_iff_ne.2 k7
                  have HK := hid (flatK_no kd k1 k2 k7)
                  clear k1 k2 k7
                  go_wp2
                  go_round
                  case rel => exact ⟨j + 1, by omega, by go_num, by rw [HF.out, HK.out]; rfl⟩
                  case measure => simp [intOf]; omega
        · obtain rfl : j = n := by omega
          have hall : Hid (flatL (l.take j) = z) := hid (Hall2.out j (by rw [Hn.out]; exact Nat.le_refl _))
          rw [hall.out]
          clear Hall2 hall Hft
          go_wp2_with fail
          refine (Ho1.out _).mono ?_
          rintro e w3 ⟨rfl, rfl⟩
          go_wp2_with fail
          refine (Ha1.out _).mono ?_
          rintro e w3 ⟨rfl, rfl⟩
          go_wp2_with fail
          refine (Ho2.out _).mono ?_
          rintro e w3 ⟨rfl, rfl⟩
          go_wp2_with fail
          refine (Ha2.out _).mono ?_
          rintro e w3 ⟨rfl, rfl⟩
          go_wp2_with fail
          refine (Hfl.out _ HR2.out hb12.size).mono ?_
          rintro e w3 ⟨rfl, hb3⟩
          have hb13 := then_ hb12 hb3
          clear hb12 hb3
          go_wp2_with fail
          refine (alive34_any _).mono ?_
          rintro e w4 ⟨rfl, hb4⟩
          have hb14 := then_ hb13 hb4
          go_wp2
          go_ret
          exact ⟨by first | rfl | simp, hb14⟩
end Go.Proofs.Ythhaannlbkgefaa
