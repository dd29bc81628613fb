/- muslinref12.word. -/
import Derived.Test.YtihgmgpcdodknaaRyy
import Derived.Test.YtihgmgpcdodknaaRepU
import Derived.Test.YtihgmgpcdodknaaBak
import Derived.Test.YtihgmgpcdodknaaTok20
import Derived.Deep.LoopGhost
set_option linter.unusedVariables false
namespace Go.Proofs.Ytihgmgpcdodknaa
open Go.RowKit

theorem wC_int (n : Int) (h0 : 0 ≤ n) (h1 : n ≤ 255) : wC (bOf n) = ((decide (97 ≤ n) && decide (n ≤ 122)) || isD (bOf n)) :=
  byte_all (p := fun c n => wC c = ((decide (97 ≤ n) && decide (n ≤ 122)) || isD c)) (by decide +kernel) n h0 h1
def wOk (m : List UInt8) (c : UInt8) : Bool := wC c || hasB m c
theorem wordL_eq (n m : List UInt8) : wordL n m = (!n.isEmpty && n.all (wOk m)) := rfl
theorem all_snocW {p : UInt8 → Bool} (l : List UInt8) (i : Nat) (h : i < l.length) (ha : (l.take i).all p = true) (hp : p l[i] = true) : (l.take (i + 1)).all p = true := by
  rw [List.take_succ_eq_append_getElem h, List.all_append, ha]
  simp [hp]
theorem all_not {p : UInt8 → Bool} (l : List UInt8) (i : Nat) (h : i < l.length) (hp : p l[i] = false) : l.all p = false := by
  rw [Bool.eq_false_iff]
  intro e
  have := List.all_eq_true.1 e l[i] (List.getElem_mem h)
  rw [hp] at this; cases this
set_option maxRecDepth 100000 in
set_option maxHeartbeats 3200000 in
theorem word_any (s m : ByteArray) (w : World) (hs : s.size ≤ 1099511627776) (hm : m.size ≤ 1099511627776) :
    Calls Try.prog 66 #[.string s, .string m] w fun e w' => e = .returned (.bool (wordL s.data.toList m.data.toList)) ∧ w' = w := by
  have Hd := hid (fun (n : Int) (h0 : 0 ≤ n) (h1 : n ≤ 255) W => (refDigit_any n h0 h1 W).mono fun e w' h => (⟨h.1, h.2.symm⟩ : e = _ ∧ w' = W))
  have Hh := hid (fun (n : Int) (h0 : 0 ≤ n) (h1 : n ≤ 255) W => (refHas_any m n W hm h0 h1).mono fun e w' h => (⟨h.1, h.2.symm⟩ : e = _ ∧ w' = W))
  obtain ⟨res, hres⟩ : ∃ res, wordL s.data.toList m.data.toList = res := ⟨_, rfl⟩
  rw [hres]
  have Hres : Hid (res = (!s.data.toList.isEmpty && s.data.toList.all (wOk m.data.toList))) := hid (by rw [← hres, wordL_eq])
  clear hres
  go_enter Try.func66, Try.ntmps66
  go_wp2
  go_loopg [5] s.size (fun g v5 wr => ∃ i : Nat, v5 = .int .i64 (i : Int) ∧ i ≤ s.size ∧ g = s.size - i ∧ Hid ((s.data.toList.take i).all (wOk m.data.toList) = true) ∧ wr = w)
  case atStart => exact ⟨0, rfl, Nat.zero_le _, rfl, hid rfl, rfl⟩
  case round =>
    obtain ⟨i, rfl, hi, rfl, hpre, rfl⟩ := hrel
    have hi0 : (0 : Int) ≤ (i : Int) := by omega
    by_cases hlt : i < s.size
    · have hil : (i : Int) < (s.size : Int) := by omega
      have hlt2 : i < s.data.toList.length := by rw [len_data]; exact hlt
      obtain ⟨n, hn', h0, h1, hbn⟩ := byteOf s i hlt
      have Hat : Hid (s.data.toList[i] = bOf n) := hid (by rw [hbn, data_get s i hlt])
      have HD := hid (Hd.out n h0 h1)
      have HH := hid (Hh.out n h0 h1)
      have Hw := hid (wC_int n h0 h1)
      clear hbn
      have good : wOk m.data.toList (bOf n) = true → Hid ((s.data.toList.take (i + 1)).all (wOk m.data.toList) = true) := fun h => hid (all_snocW _ i hlt2 hpre.out (by rw [Hat.out]; exact h))
      have bad : wOk m.data.toList (bOf n) = false → Hid (res = false) := fun h => hid (by rw [Hres.out, all_not _ i hlt2 (by rw [Hat.out]; exact h), Bool.and_false])
      obtain ⟨db, hdb⟩ : ∃ b, isD (bOf n) = b := ⟨_, rfl⟩
      obtain ⟨hb, hhb⟩ : ∃ b, hasB m.data.toList (bOf n) = b := ⟨_, rfl⟩
      rw [hdb] at HD Hw
      rw [hhb] at HH
      have Hhb := hid hhb
      have Hgood := hid good
      have Hbad := hid bad
      clear hdb hhb good bad
      by_cases ha : n < 97
      · have ha1 : decide (n < 97) = true := decide_eq_true ha
        have ha2 : ¬ 97 ≤ n := by omega
        have Hw2 : Hid (wC (bOf n) = db) := hid (by rw [Hw.out, decide_eq_false ha2]; rfl)
        cases db with
        | true =>
          have Hg := Hgood.out (by unfold wOk; rw [Hw2.out]; rfl)
          go_wp2_with fail
          refine (HD.out _).mono ?_
          rintro e w2 ⟨rfl, hw⟩
          subst hw
          go_wp2_with fail
          go_roundg (s.size - (i + 1))
          case measure => omega
          case rel => exact ⟨i + 1, by go_num, by omega, rfl, Hg, rfl⟩
        | false =>
          cases hb with
          | true =>
            have Hg := Hgood.out (by unfold wOk; rw [Hw2.out, Hhb.out]; rfl)
            go_wp2_with fail
            refine (HD.out _).mono ?_
            rintro e w2 ⟨rfl, hw⟩
            subst hw
            go_wp2_with fail
            refine (HH.out _).mono ?_
            rintro e w2 ⟨rfl, hw⟩
            subst hw
            go_wp2_with fail
            go_roundg (s.size - (i + 1))
            case measure => omega
            case rel => exact ⟨i + 1, by go_num, by omega, rfl, Hg, rfl⟩
          | false =>
            have Hbd := Hbad.out (by unfold wOk; rw [Hw2.out, Hhb.out]; rfl)
            go_wp2_with fail
            refine (HD.out _).mono ?_
            rintro e w2 ⟨rfl, hw⟩
            subst hw
            go_wp2_with fail
            refine (HH.out _).mono ?_
            rintro e w2 ⟨rfl, hw⟩
            subst hw
            go_wp2_with fail
            go_ret
            refine ⟨?_, rfl⟩
            rw [Hbd.out] <;> rfl
      · have ha1 : decide (n < 97) = false := decide_eq_false ha
        by_cases hz : 122 < n
        · have hz1 : decide (122 < n) = true := decide_eq_true hz
          have hz2 : ¬ n ≤ 122 := by omega
          have Hw2 : Hid (wC (bOf n) = db) := hid (by rw [Hw.out, decide_eq_false hz2]; simp)
          cases db with
          | true =>
            have Hg := Hgood.out (by unfold wOk; rw [Hw2.out]; rfl)
            go_wp2_with fail
            refine (HD.out _).mono ?_
            rintro e w2 ⟨rfl, hw⟩
            subst hw
            go_wp2_with fail
            go_roundg (s.size - (i + 1))
            case measure => omega
            case rel => exact ⟨i + 1, by go_num, by omega, rfl, Hg, rfl⟩
          | false =>
            cases hb with
            | true =>
              have Hg := Hgood.out (by unfold wOk; rw [Hw2.out, Hhb.out]; rfl)
              go_wp2_with fail
              refine (HD.out _).mono ?_
              rintro e w2 ⟨rfl, hw⟩
              subst hw
              go_wp2_with fail
              refine (HH.out _).mono ?_
              rintro e w2 ⟨rfl, hw⟩
              subst hw
              go_wp2_with fail
              go_roundg (s.size - (i + 1))
              case measure => omega
              case rel => exact ⟨i + 1, by go_num, by omega, rfl, Hg, rfl⟩
            | false =>
              have Hbd := Hbad.out (by unfold wOk; rw [Hw2.out, Hhb.out]; rfl)
              go_wp2_with fail
              refine (HD.out _).mono ?_
              rintro e w2 ⟨rfl, hw⟩
              subst hw
              go_wp2_with fail
              refine (HH.out _).mono ?_
              rintro e w2 ⟨rfl, hw⟩
              subst hw
              go_wp2_with fail
              go_ret
              refine ⟨?_, rfl⟩
              rw [Hbd.out] <;> rfl
        · have hz1 : decide (122 < n) = false := decide_eq_false hz
          have Hg := Hgood.out (by unfold wOk; rw [Hw.out, decide_eq_true (show 97 ≤ n by omega), decide_eq_true (show n ≤ 122 by omega)]; rfl)
          go_wp2_with fail
          go_roundg (s.size - (i + 1))
          case measure => omega
          case rel => exact ⟨i + 1, by go_num, by omega, rfl, Hg, rfl⟩
    · obtain rfl : i = s.size := by omega
      have hall : s.data.toList.all (wOk m.data.toList) = true := by
        have := hpre.out
        rwa [List.take_of_length_le (by rw [len_data]; exact Nat.le_refl _)] at this
      have hm1 : ¬ (s.size : Int) < (s.size : Int) := by omega
      have Hres2 : Hid (res = !s.data.toList.isEmpty) := hid (by rw [Hres.out, hall, Bool.and_true])
      have Hemp := hid (show s.toList.isEmpty = s.data.toList.isEmpty from by rw [ByteArray.toList_eq])
      clear hall
      go_wp2_with fail
      go_ret
      refine ⟨?_, rfl⟩
      rw [Hres2.out, ← Hemp.out] <;> rfl
end Go.Proofs.Ytihgmgpcdodknaa
