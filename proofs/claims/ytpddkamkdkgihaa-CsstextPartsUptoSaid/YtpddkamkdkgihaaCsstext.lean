/- Contracts of package csstext: Plain, Filter. -/
import Derived.Test.YtpddkamkdkgihaaFunc
set_option linter.unusedVariables false
namespace Go.Proofs.Ytpddkamkdkgihaa
open Go.RowKit

theorem plain1_int (n : Int) (h0 : 0 ≤ n) (h1 : n ≤ 255) : (!okCss (bOf n)) = (!isLetter (bOf n) && (decide (n < 48) || decide (57 < n)) && decide (Lib.indexByte [32, 46, 44, 37, 35, 43, 45] n.toNat.toUInt8 < 0)) :=
  bytes_all (p := fun c n => (!okCss c) = (!isLetter c && (decide (n < 48) || decide (57 < n)) && decide (Lib.indexByte [32, 46, 44, 37, 35, 43, 45] n.toNat.toUInt8 < 0))) (by decide +kernel) n h0 h1

set_option maxHeartbeats 400000 in
theorem plain1_any (n : Int) (h0 : 0 ≤ n) (h1 : n ≤ 255) (w : World) :
    Calls Try.prog 28 #[.int .u8 n] w fun e w' => e = .returned (.bool (!okCss (bOf n))) ∧ w = w' := by
  have hl := hid (plain1_int n h0 h1)
  go_enter Try.func28, Try.ntmps28
  go_wp2_with (first | (go_at_call 29; refine (letter_any _ h0 h1 _).mono ?_; rintro e w1 ⟨rfl, rfl⟩) | (go_at_call 30; refine (Try.strings_IndexByte _ _ _).mono ?_; rintro e w1 ⟨rfl, rfl⟩))
  all_goals go_ret
  all_goals (refine ⟨ret_bool ?_, rfl⟩; rw [hl.out]; first | (simp [*]; done) | (rw [Bool.eq_iff_iff]; simp [*]; omega))

set_option maxHeartbeats 800000 in
theorem indexFunc_any (w : World) (B cap : Nat) (l : List UInt8) (hB : BytesIn w B l) (hl : l.length ≤ 1099511627776) (nl : Nat) (hn : nl = l.length) :
    Calls Try.prog 50 #[.slice (some ⟨B, 0, none⟩) nl cap, .func (.func 28) #[] #[]] w fun e w' => (∃ r : Int, e = .returned (.int .i64 r) ∧ Hid (decide (0 ≤ r) = !l.all okCss)) ∧ w = w' := by
  have HB := hid hB
  clear hB
  have Hn := hid hn
  clear hn
  have hnl : nl ≤ 1099511627776 := by rw [Hn.out]; exact hl
  clear hl
  go_enter Try.func50, Try.ntmps50
  go_wp2
  go_loop [8] (fun i => ∃ k : Nat, k ≤ nl ∧ i = .int .i64 k ∧ Hid (∀ c ∈ l.take k, okCss c = true)) (fun i => nl - (intOf i).toNat)
  case atStart => exact ⟨0, Nat.zero_le _, rfl, hid (by simp)⟩
  case round =>
    obtain ⟨k, hk, rfl, hS⟩ := hrel
    by_cases hlt : k < nl
    · have hkl : k < l.length := by rw [← Hn.out]; exact hlt
      have hc0 := HB.out k hkl
      have hst := hid (take_one l k hkl)
      obtain ⟨c, hc⟩ : ∃ c, l[k] = c := ⟨_, rfl⟩
      have hm : Hid (c ∈ l) := hid (by rw [← hc]; exact List.getElem_mem hkl)
      rw [hc] at hc0 hst
      clear hc
      have hcb : (c.toNat : Int) ≤ 255 := by have := c.toNat_lt; omega
      have hbc := bOf_cast c
      go_wp2_with (go_at_call 28; refine (plain1_any _ (by omega) hcb _).mono ?_; rintro e w1 ⟨rfl, rfl⟩)
      · go_ret
        refine ⟨⟨_, rfl, hid ?_⟩, rfl⟩
        have h : okCss c = false := by simpa [hbc] using ‹(!okCss _) = true›
        have : l.all okCss = false := by rw [List.all_eq_false]; exact ⟨c, hm.out, by rw [h]; simp⟩
        rw [this]; simp
      · go_round
        case rel =>
          refine ⟨k + 1, by omega, by go_num, hid ?_⟩
          have h : okCss c = true := by simpa [hbc] using ‹(!okCss _) = false›
          rw [hst.out]
          intro d hd
          rcases List.mem_append.1 hd with h' | h'
          · exact hS.out d h'
          · have e : d = c := by simpa using h'
            rw [e, h]
        case measure => simp [intOf]; omega
    · obtain rfl : k = nl := by omega
      go_wp2
      go_ret
      refine ⟨⟨_, rfl, hid ?_⟩, rfl⟩
      have h := hS.out
      rw [List.take_of_length_le (by rw [Hn.out]; exact Nat.le_refl _)] at h
      rw [List.all_eq_true.2 h]; rfl

set_option maxHeartbeats 400000 in
theorem containsFunc_any (w : World) (B cap : Nat) (l : List UInt8) (hB : BytesIn w B l) (hl : l.length ≤ 1099511627776) (nl : Nat) (hn : nl = l.length) :
    Calls Try.prog 27 #[.slice (some ⟨B, 0, none⟩) nl cap, .func (.func 28) #[] #[]] w fun e w' => (∃ r : Bool, e = .returned (.bool r) ∧ Hid (r = !l.all okCss)) ∧ w = w' := by
  have hc := hid (indexFunc_any w B cap l hB hl nl hn)
  clear hB hl hn
  go_enter Try.func27, Try.ntmps27
  go_wp2_with (go_at_call 50; refine hc.out.mono ?_; rintro e w1 ⟨⟨r, rfl, hr⟩, rfl⟩)
  all_goals go_ret
  exact ⟨⟨_, rfl, hr⟩, rfl⟩

theorem styledL_split (s : ByteArray) (t : ByteArray) (h : t.data.toList = low s.data.toList) : styledL s.data.toList = (decide (s.size ≤ 4096) && !Lib.contains t.data.toList sExpr && !Lib.contains t.data.toList sUrl && t.data.toList.all okCss) := by
  unfold styledL
  rw [← h, contains_eq, contains_eq, len_data, Bool.not_not, Bool.not_not, Bool.and_comm]

set_option maxHeartbeats 800000 in
theorem plain_any (s : ByteArray) (w : World) (hs : s.size ≤ 1048600) (hm : MaxAt w) :
    Calls Try.prog 16 #[.string s] w (RBool w (styledL s.data.toList)) := by
  have kc := fun (w : World) (s : ByteArray) => run_bytes_of_string (P := Try.prog) w 9 40 5 s Try.underlying9 Try.underlying40 Try.underlying5
  have hlens := hid (len_data s)
  have hmx := hid hm
  clear hm
  go_enter Try.func16, Try.ntmps16
  by_cases h4 : s.size ≤ 4096
  · go_wp2_with (go_at_call 25; refine (lower_any _ _ (by omega)).mono ?_; rintro e w1 ⟨t, rfl, ht, hb1⟩)
    next =>
      have hlt := hid (len_data t)
      have hts : t.size < 4294967281 := by rw [← hlt.out, ht.out, low_length, hlens.out]; omega
      obtain ⟨m, hm1⟩ := hmx.out.keep hb1
      have Hm1 := hid hm1
      clear hm1
      have hun := hid (styledL_split s t ht.out)
      have hd : Hid (decide (s.size ≤ 4096) = true) := hid (decide_eq_true h4)
      have hE : Hid (sExpr = [101, 120, 112, 114, 101, 115, 115, 105, 111, 110]) := hid rfl
      have hU : Hid (sUrl = [117, 114, 108]) := hid rfl
      go_wp2_with (first | (go_at_call 26; refine (Try.strings_Contains _ _ m _ hts Hm1.out).mono ?_; rintro e w2 ⟨rfl, rfl⟩) | (go_at_call 27; refine (containsFunc_any _ _ _ t.data.toList (BytesIn.new _ t _ _ _).drew (by rw [hlt.out]; omega) _ hlt.out.symm).mono ?_; rintro e w3 ⟨⟨r, rfl, hr⟩, rfl⟩))
      all_goals go_ret
      · refine ⟨_, rfl, hid ?_, hb1⟩
        rw [hun.out, hE.out, ‹Lib.contains t.data.toList [101, 120, 112, 114, 101, 115, 115, 105, 111, 110] = true›]; simp
      · refine ⟨_, rfl, hid ?_, hb1⟩
        rw [hun.out, hU.out, ‹Lib.contains t.data.toList [117, 114, 108] = true›]; simp
      · refine ⟨_, rfl, hid ?_, hb1.trans (((Below.refl _ _).alloc hb1.size _).drew)⟩
        have e1 : Lib.contains t.data.toList [101, 120, 112, 114, 101, 115, 115, 105, 111, 110] = false := by simpa using ‹¬ Lib.contains t.data.toList [101, 120, 112, 114, 101, 115, 115, 105, 111, 110] = true›
        have e2 : Lib.contains t.data.toList [117, 114, 108] = false := by simpa using ‹¬ Lib.contains t.data.toList [117, 114, 108] = true›
        rw [hun.out, hE.out, hU.out, e1, e2, hd.out, hr.out]; simp
  · go_wp2
    go_ret
    refine ⟨_, rfl, hid ?_, Below.refl _ _⟩
    have : decide (s.data.toList.length ≤ 4096) = false := decide_eq_false (by rw [hlens.out]; exact h4)
    unfold styledL; rw [this]; simp
set_option maxHeartbeats 400000 in
theorem filter_any (s : ByteArray) (w : World) (hs : s.size ≤ 1048600) (hm : MaxAt w) :
    Calls Try.prog 15 #[.string s] w (RStr w (styleL s.data.toList)) := by
  have hmx := hid hm
  clear hm
  go_enter Try.func15, Try.ntmps15
  go_wp2_with (go_at_call 16; refine (plain_any _ _ hs hmx.out).mono ?_; rintro e w1 ⟨r, rfl, hr, hb1⟩; cases r)
  all_goals go_ret
  all_goals (refine ⟨_, rfl, hid ?_, hb1⟩; unfold styleL; rw [← hr.out]; rfl)

set_option maxHeartbeats 400000 in
theorem cssAlive10_any (w : World) (hm : MaxAt w) : Calls Try.prog 17 #[] w fun e w' => e = .returned (.bool true) ∧ Below w.heap.size w w' := by
  have hmx := hid hm
  clear hm
  go_enter Try.func17, Try.ntmps17
  go_wp2_with fail
  refine (filter_any _ _ (by show 4 ≤ _; omega) hmx.out).mono ?_
  rintro e w1 ⟨t1, rfl, ht1, hb1⟩
  have e1 : t1.toList = [49, 50, 112, 120] := by rw [ByteArray.toList_eq, ht1.out]; decide
  go_wp2_with fail
  refine (filter_any _ _ (by show 3 ≤ _; omega) (hmx.out.keep hb1)).mono ?_
  rintro e w2 ⟨t2, rfl, ht2, hb2⟩
  have e2 : t2.toList = [90, 103, 111, 116, 109, 112, 108, 90] := by rw [ByteArray.toList_eq, ht2.out]; decide
  go_wp2
  go_ret
  exact ⟨by simp, then_ hb1 hb2⟩
end Go.Proofs.Ytpddkamkdkgihaa
