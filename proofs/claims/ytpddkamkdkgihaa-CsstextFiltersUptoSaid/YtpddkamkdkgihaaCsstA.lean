/- CsstextFilters, CsstextParts: the walks. -/
import Derived.Test.YtpddkamkdkgihaaCsstext
import Derived.Test.YtpddkamkdkgihaaSub
import Derived.Deep.QuietTactic
import Derived.BigQuiet
import Derived.WalkSmall
set_option linter.unusedVariables false
namespace Go.Proofs.Ytpddkamkdkgihaa
open Go.RowKit

theorem styleL_styled (l : List UInt8) : styledL (styleL l) = true := by
  unfold styleL; split
  · assumption
  · exact styledL_mark
theorem styleL_idem (l : List UInt8) : styleL (styleL l) = styleL l := by
  show (if styledL (styleL l) then styleL l else sMark) = styleL l
  rw [styleL_styled]; rfl

set_option maxHeartbeats 800000 in
theorem csstFilters_any (s : ByteArray) (w : World) (hs : s.size ≤ 1048576) (hm : MaxAt w) :
    Calls Try.prog 6 #[.string s] w fun e w' => e = .returned (.bool true) ∧ Below w.heap.size w w' := by
  have hmx := hid hm
  clear hm
  have hsz : ∀ t : ByteArray, t.data.toList = styleL s.data.toList → t.size ≤ 1048600 := fun t h => by
    rw [← len_data, h]; unfold styleL; split
    · rw [len_data]; omega
    · show 8 ≤ _; omega
  have Hsz := hid hsz
  clear hsz
  go_enter Try.func6, Try.ntmps6
  go_wp2_with fail
  refine (filter_any _ _ (by omega) hmx.out).mono ?_
  rintro e w1 ⟨t1, rfl, ht1, hb1⟩
  have hz1 := Hsz.out t1 ht1.out
  have hm1 := hid (hmx.out.keep hb1)
  go_wp2_with fail
  refine (plain_any _ _ hz1 hm1.out).mono ?_
  rintro e w2 ⟨r2, rfl, hr2, hb2⟩
  have hm2 := hid (hm1.out.keep hb2)
  obtain rfl : r2 = true := by rw [hr2.out, ht1.out, styleL_styled]
  go_wp2_with fail
  refine (filter_any _ _ hz1 hm2.out).mono ?_
  rintro e w3 ⟨t3, rfl, ht3, hb3⟩
  have hm3 := hid (hm2.out.keep hb3)
  have e3 : t3.toList = t1.toList := by rw [ByteArray.toList_eq, ByteArray.toList_eq, ht3.out, ht1.out, styleL_idem]
  cases hst : styledL s.data.toList with
  | true =>
    have e1 : t1.toList = s.toList := by rw [ByteArray.toList_eq, ByteArray.toList_eq, ht1.out]; unfold styleL; rw [hst]; rfl
    go_wp2_with (go_at_call 17; refine (cssAlive10_any _ hm3.out).mono ?_; rintro e w4 ⟨rfl, hb4⟩)
    go_ret
    exact ⟨rfl, then_ (then_ (then_ hb1 hb2) hb3) hb4⟩
  | false =>
    have e0 : t1.toList = [90, 103, 111, 116, 109, 112, 108, 90] := by rw [ByteArray.toList_eq, ht1.out]; unfold styleL; rw [hst]; rfl
    have e1 : ([90, 103, 111, 116, 109, 112, 108, 90] == s.toList) = false := by
      rw [beq_eq_false_iff_ne]
      intro h
      rw [ByteArray.toList_eq] at h
      have := styledL_mark
      rw [show sMark = s.data.toList from h, hst] at this
      cases this
    go_wp2_with fail
    refine (plain_any _ _ (by omega) hm3.out).mono ?_
    rintro e w4 ⟨r4, rfl, hr4, hb4⟩
    have hm4 := hid (hm3.out.keep hb4)
    obtain rfl : r4 = false := by rw [hr4.out, hst]
    go_wp2_with (go_at_call 17; refine (cssAlive10_any _ hm4.out).mono ?_; rintro e w5 ⟨rfl, hb5⟩)
    go_ret
    exact ⟨rfl, then_ (then_ (then_ (then_ hb1 hb2) hb3) hb4) hb5⟩

theorem mod_in (a : Int) (n : Nat) (hn : n ≤ 1048576) : ∃ x : Nat, x ≤ n ∧ (wrap64 (a.tmod ((n : Int) + 1) + ((n : Int) + 1))).tmod ((n : Int) + 1) = (x : Int) := by
  have h1 : a.tmod ((n : Int) + 1) < (n : Int) + 1 := Int.tmod_lt_of_pos a (by omega)
  have h2 : (-a).tmod ((n : Int) + 1) < (n : Int) + 1 := Int.tmod_lt_of_pos (-a) (by omega)
  rw [Int.neg_tmod] at h2
  have e : wrap64 (a.tmod ((n : Int) + 1) + ((n : Int) + 1)) = a.tmod ((n : Int) + 1) + ((n : Int) + 1) := IntWalk.wrap64_in _ ⟨by omega, by omega⟩
  rw [e]
  generalize a.tmod ((n : Int) + 1) = y at *
  rw [Int.tmod_eq_emod_of_nonneg (by omega)]
  have h3 := Int.emod_nonneg (y + ((n : Int) + 1)) (b := (n : Int) + 1) (by omega)
  have h4 := Int.emod_lt_of_pos (y + ((n : Int) + 1)) (b := (n : Int) + 1) (by omega)
  exact ⟨((y + ((n : Int) + 1)) % ((n : Int) + 1)).toNat, by omega, by omega⟩

set_option maxHeartbeats 1600000 in
theorem csstParts_any (s : ByteArray) (a b : Int) (w : World) (hs : s.size ≤ 1048576) (ha0 : -9223372036854775808 ≤ a) (ha1 : a ≤ 9223372036854775807) (hb0 : -9223372036854775808 ≤ b) (hb1 : b ≤ 9223372036854775807) (hm : MaxAt w) :
    Calls Try.prog 7 #[.string s, .int .i64 a, .int .i64 b] w fun e w' => e = .returned (.bool true) ∧ Below w.heap.size w w' := by
  have hmx := hid hm
  clear hm
  obtain ⟨x, hx, ex⟩ := mod_in a s.size hs
  obtain ⟨y, hy, ey⟩ := mod_in b s.size hs
  have Ex := hid ex
  have Ey := hid ey
  clear ex ey
  go_enter Try.func7, Try.ntmps7
  go_wp2_with fail
  refine (cssAlive10_any _ hmx.out).mono ?_
  rintro e w1 ⟨rfl, hbw⟩
  go_wp2_with fail
  go_quiet (fail)
  rw [Ex.out, Ey.out]
  have hsub : Hid (∀ i j : Nat, styledL s.data.toList = true → styledL (s.extract i j).data.toList = true) := hid (fun i j h => by rw [data_extract]; exact styledL_sub _ _ _ h)
  have hbq : Below w.heap.size w (w1.drewN nq) := below_drewN hbw nq
  clear Ex Ey
  have hmq := hid (hmx.out.keep hbq)
  clear hbw
  generalize w1.drewN nq = w2 at *
  by_cases hlt : y < x
  · go_wp2_with fail
    refine (plain_any _ _ (by omega) hmq.out).mono ?_
    rintro e w3 ⟨r, rfl, hr, hb3⟩
    have hm3 := hid (hmq.out.keep hb3)
    cases r with
    | false =>
      go_wp2
      go_ret
      exact ⟨rfl, then_ hbq hb3⟩
    | true =>
      have hss := hid (hsub.out y x hr.out.symm)
      go_wp2_with fail
      refine (plain_any _ _ (by rw [ByteArray.size_extract]; omega) hm3.out).mono ?_
      rintro e w4 ⟨r4, rfl, hr4, hb4⟩
      obtain rfl : r4 = true := by rw [hr4.out, hss.out]
      go_wp2
      go_ret
      exact ⟨rfl, then_ (then_ hbq hb3) hb4⟩
  · go_wp2_with fail
    refine (plain_any _ _ (by omega) hmq.out).mono ?_
    rintro e w3 ⟨r, rfl, hr, hb3⟩
    have hm3 := hid (hmq.out.keep hb3)
    cases r with
    | false =>
      go_wp2
      go_ret
      exact ⟨rfl, then_ hbq hb3⟩
    | true =>
      have hss := hid (hsub.out x y hr.out.symm)
      go_wp2_with fail
      refine (plain_any _ _ (by rw [ByteArray.size_extract]; omega) hm3.out).mono ?_
      rintro e w4 ⟨r4, rfl, hr4, hb4⟩
      obtain rfl : r4 = true := by rw [hr4.out, hss.out]
      go_wp2
      go_ret
      exact ⟨rfl, then_ (then_ hbq hb3) hb4⟩
end Go.Proofs.Ytpddkamkdkgihaa
