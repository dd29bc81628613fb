/- tokens.word, tagMay, Check. -/
import Derived.Test.YtihgmgpcdodknaaDoorBak
import Derived.Test.YtihgmgpcdodknaaDoorSam
import Derived.Test.YtihgmgpcdodknaaDoorFunc
import Derived.Test.YtihgmgpcdodknaaDoorRep
import Derived.Test.YtihgmgpcdodknaaDoorDoor
import Derived.Deep.RegionHeld3
import Derived.Deep.QuietTactic
import Derived.Deep.LoopGhost
import Derived.BigQuiet
set_option linter.unusedVariables false
namespace Go.Proofs.YtihgmgpcdodknaaDoor
open Go.RowKit

theorem index_negB (l : List UInt8) (c : UInt8) : decide (Lib.indexByte l c < 0) = !l.contains c := by
  have hg := Lib.indexByte_ge l c
  rcases Int.lt_or_le (Lib.indexByte l c) 0 with h | h
  · have := Lib.indexByte_none (show Lib.indexByte l c = -1 by omega)
    have hn : l.contains c = false := by
      rw [Bool.eq_false_iff]
      intro h
      rw [List.contains_iff_mem] at h
      obtain ⟨k, hk, e⟩ := List.mem_iff_getElem.1 h
      exact this k (by rw [List.getElem?_eq_getElem hk, e])
    rw [decide_eq_true h, hn]; rfl
  · obtain ⟨o, ho⟩ : ∃ o : Nat, Lib.indexByte l c = o := ⟨(Lib.indexByte l c).toNat, by omega⟩
    have h1 := (Lib.indexByte_some ho).1
    have hm : l.contains c = true := by rw [List.contains_iff_mem]; exact List.mem_of_getElem? h1
    rw [decide_eq_false (by omega), hm]; rfl
theorem BytesIn.new_at (w : World) (B : Nat) (hB : w.heap.size = B) (s : ByteArray) (cap : Nat) (t : TypeId) (fr : Nat × Nat) : BytesIn (w.alloc (.cells (bytesRow s cap) t fr)).drew B s.data.toList := by
  subst hB
  exact (BytesIn.new w s cap t fr).drew
def wOkB (m : List UInt8) (c : UInt8) : Bool := wC c || m.contains c
theorem wordB_eq (n m : List UInt8) : wordL n m = (!n.isEmpty && n.all (wOkB m)) := rfl
theorem wC_intB (n : Int) (h0 : 0 ≤ n) (h1 : n ≤ 255) : (!wC (bOf n)) = ((decide (n < 97) || decide (122 < n)) && (decide (n < 48) || decide (57 < n))) :=
  bytes_all (p := fun c n => (!wC c) = ((decide (n < 97) || decide (122 < n)) && (decide (n < 48) || decide (57 < n)))) (by decide +kernel) n h0 h1
theorem wOkB_int (m : List UInt8) (n : Int) (h0 : 0 ≤ n) (h1 : n ≤ 255) : (!wOkB m (bOf n)) = ((decide (n < 97) || decide (122 < n)) && (decide (n < 48) || decide (57 < n)) && decide (Lib.indexByte m n.toNat.toUInt8 < 0)) := by
  have e : n.toNat.toUInt8 = bOf n := rfl
  rw [e, index_negB, ← wC_intB n h0 h1]
  unfold wOkB
  rw [Bool.not_or]
set_option maxHeartbeats 800000 in
theorem word1_any (n : Int) (h0 : 0 ≤ n) (h1 : n ≤ 255) (m : ByteArray) (T : Nat) (w : World) (hc : w.cell? ⟨T, 0, none⟩ = some (.string m)) :
    Calls Tryd.prog 111 #[.int .u8 n, .pointer (some ⟨T, 0, none⟩)] w fun e w' => e = .returned (.bool (!wOkB m.data.toList (bOf n))) ∧ w = w' := by
  have hl := hid (wOkB_int m.data.toList n h0 h1)
  go_enter Tryd.func111, Tryd.ntmps111
  go_wp2_with (go_at_call 67; refine (Tryd.strings_IndexByte _ _ _).mono ?_; rintro e w1 ⟨rfl, rfl⟩)
  all_goals go_ret
  all_goals (refine ⟨ret_bool ?_, rfl⟩; first | (rw [hl.out]; done) | (rw [hl.out]; simp [*]; done) | (rw [hl.out, Bool.eq_iff_iff]; simp [*]; omega))
set_option maxHeartbeats 800000 in
theorem wordIdx_any (w : World) (B cap : Nat) (l : List UInt8) (m : ByteArray) (T : Nat) (hc : w.cell? ⟨T, 0, none⟩ = some (.string m)) (hB : BytesIn w B l) (hl : l.length ≤ 1099511627776) (nl : Nat) (hn : nl = l.length) :
    Calls Tryd.prog 120 #[.slice (some ⟨B, 0, none⟩) nl cap, .func (.func 111) #[] #[.pointer (some ⟨T, 0, none⟩)]] w fun e w' => (∃ r : Int, e = .returned (.int .i64 r) ∧ Hid (decide (0 ≤ r) = !l.all (wOkB m.data.toList))) ∧ w = w' := by
  have HB := hid hB
  clear hB
  have Hn := hid hn
  clear hn
  have hnl : nl ≤ 1099511627776 := by rw [Hn.out]; exact hl
  clear hl
  have Hw := hid (fun n h0 h1 => word1_any n h0 h1 m T w hc)
  clear hc
  generalize m.data.toList = mm at *
  go_enter Tryd.func120, Tryd.ntmps120
  go_wp2
  go_loop [8] (fun i => ∃ k : Nat, k ≤ nl ∧ i = .int .i64 k ∧ Hid (∀ c ∈ l.take k, wOkB mm c = true)) (fun i => nl - (intOf i).toNat)
  case atStart => exact ⟨0, Nat.zero_le _, rfl, hid (by simp)⟩
  case round =>
    obtain ⟨k, hk, rfl, hS⟩ := hrel
    by_cases hlt : k < nl
    · have hkl : k < l.length := by rw [← Hn.out]; exact hlt
      have hc0 := HB.out k hkl
      have hst := hid (take_one l k hkl)
      obtain ⟨c, hc⟩ : ∃ c, l[k] = c := ⟨_, rfl⟩
      have hm : Hid (c ∈ l) := hid (by rw [← hc]; exact List.getElem_mem hkl)
      rw [hc] at hc0 hst
      clear hc
      have hcb : (c.toNat : Int) ≤ 255 := by have := c.toNat_lt; omega
      have hbc := bOf_cast c
      have Hw1 := hid (Hw.out _ (by omega : (0 : Int) ≤ (c.toNat : Int)) hcb)
      rw [hbc] at Hw1
      obtain ⟨q, hq⟩ : ∃ q, wOkB mm c = q := ⟨_, rfl⟩
      rw [hq] at Hw1
      have Hq := hid hq
      clear hq hbc
      cases q with
      | false =>
        go_wp2_with (go_at_call 111; refine Hw1.out.mono ?_; rintro e w1 ⟨rfl, rfl⟩)
        go_ret
        refine ⟨⟨_, rfl, hid ?_⟩, rfl⟩
        have : l.all (wOkB mm) = false := by rw [List.all_eq_false]; exact ⟨c, hm.out, by rw [Hq.out]; simp⟩
        rw [this]; simp
      | true =>
        go_wp2_with (go_at_call 111; refine Hw1.out.mono ?_; rintro e w1 ⟨rfl, rfl⟩)
        go_round
        case rel =>
          refine ⟨k + 1, by omega, by go_num, hid ?_⟩
          rw [hst.out]
          intro d hd
          rcases List.mem_append.1 hd with h' | h'
          · exact hS.out d h'
          · have e : d = c := by simpa using h'
            rw [e, Hq.out]
        case measure => simp [intOf]; omega
    · obtain rfl : k = nl := by omega
      go_wp2
      go_ret
      refine ⟨⟨_, rfl, hid ?_⟩, rfl⟩
      have h := hS.out
      rw [List.take_of_length_le (by rw [Hn.out]; exact Nat.le_refl _)] at h
      rw [List.all_eq_true.2 h]; rfl
set_option maxHeartbeats 400000 in
theorem wordHas_any (w : World) (B cap : Nat) (l : List UInt8) (m : ByteArray) (T : Nat) (hc : w.cell? ⟨T, 0, none⟩ = some (.string m)) (hB : BytesIn w B l) (hl : l.length ≤ 1099511627776) (nl : Nat) (hn : nl = l.length) :
    Calls Tryd.prog 110 #[.slice (some ⟨B, 0, none⟩) nl cap, .func (.func 111) #[] #[.pointer (some ⟨T, 0, none⟩)]] w fun e w' => (∃ r : Bool, e = .returned (.bool r) ∧ Hid (r = !l.all (wOkB m.data.toList))) ∧ w = w' := by
  have hcc := hid (wordIdx_any w B cap l m T hc hB hl nl hn)
  clear hB hl hn hc
  go_enter Tryd.func110, Tryd.ntmps110
  go_wp2_with (go_at_call 120; refine hcc.out.mono ?_; rintro e w1 ⟨⟨r, rfl, hr⟩, rfl⟩)
  all_goals go_ret
  exact ⟨⟨_, rfl, hr⟩, rfl⟩
set_option maxHeartbeats 800000 in
theorem wordB_any (s m : ByteArray) (w : World) (hs : s.size ≤ 1099511627776) :
    Calls Tryd.prog 96 #[.string s, .string m] w fun e w' => e = .returned (.bool (wordL s.data.toList m.data.toList)) ∧ Below w.heap.size w w' := by
  have kc := fun (w : World) (s : ByteArray) => run_bytes_of_string (P := Tryd.prog) w 9 49 5 s Tryd.underlying9 Tryd.underlying49 Tryd.underlying5
  have Hlen := hid (len_data s)
  have Hemp := hid (show s.toList.isEmpty = s.data.toList.isEmpty from by rw [ByteArray.toList_eq])
  have Heq := hid (wordB_eq s.data.toList m.data.toList)
  have Hw := hid (fun B cap T W hc hB => wordHas_any W B cap s.data.toList m T hc hB (by rw [Hlen.out]; exact hs) s.size Hlen.out.symm)
  have Hb0 := hid (alloc_below w (.cells #[.string m] 9))
  by_cases he : s.data.toList.isEmpty = true
  · have he2 : s.toList.isEmpty = true := by rw [Hemp.out]; exact he
    have Hres : Hid (wordL s.data.toList m.data.toList = false) := hid (by rw [Heq.out, he]; rfl)
    clear he
    rw [Hres.out]
    go_enter Tryd.func96, Tryd.ntmps96
    go_wp2_with fail
    go_ret
    exact ⟨rfl, Hb0.out⟩
  · have he1 : s.data.toList.isEmpty = false := by simpa using he
    have he2 : s.toList.isEmpty = false := by rw [Hemp.out]; exact he1
    have Hres : Hid (wordL s.data.toList m.data.toList = s.data.toList.all (wOkB m.data.toList)) := hid (by rw [Heq.out, he1]; rfl)
    clear he he1
    obtain ⟨res, hr⟩ : ∃ r, wordL s.data.toList m.data.toList = r := ⟨_, rfl⟩
    rw [hr] at Hres ⊢
    clear hr
    go_enter Tryd.func96, Tryd.ntmps96
    go_wp2_with (go_at_call 110; refine (Hw.out _ _ _ _ ?c1 ?c2).mono ?_; rotate_left 1; (exact BytesIn.new_at _ _ (by simp) s _ _ _); rotate_left 1; (exact ((World.cell?_alloc_lt (w.alloc (.cells #[.string m] 9)) _ ⟨w.heap.size, 0, none⟩ (by simp)).trans ((Blk.new w 9 #[.string m]).cell 0) : World.cell? (World.alloc (w.alloc (.cells #[.string m] 9)) _) ⟨w.heap.size, 0, none⟩ = some (.string m))); rintro e w3 ⟨⟨r, rfl, hr⟩, rfl⟩)
    go_ret
    refine ⟨ret_bool (by rw [Hres.out, hr.out]; simp), ?_⟩
    exact Hb0.out.trans (((alloc_below (w.alloc (.cells #[.string m] 9)) _).drew).mono (by simp))
end Go.Proofs.YtihgmgpcdodknaaDoor
