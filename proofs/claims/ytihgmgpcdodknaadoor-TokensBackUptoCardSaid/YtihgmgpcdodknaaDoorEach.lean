/- utf.each: the iterator over a text's characters keeps what is left of the text in a captured variable: its contract, and the law for a 'for c := range each(s)' whose body goes on. -/
import Derived.Test.YtihgmgpcdodknaaDoorUtf
import Derived.Test.YtihgmgpcdodknaaDoorTokP
import Derived.RangeFuncNested
import Derived.RangeFuncBound
import Derived.RangeFuncCalls
import Derived.RangeFuncLeaves
import Derived.RangeFuncBox
import Derived.Shelf.Abstract
import Derived.Shelf.RegionOpen
import Derived.WalkKit
import Derived.OwnWalkIn
import Derived.TacticsInMore
import Derived.LoopNIn
import Derived.LoopIn
set_option linter.unusedVariables false
namespace Go.Proofs.YtihgmgpcdodknaaDoor
open Go.RowKit Go.Shelf
attribute [local go_sem] Oper.semAt_some

/-- the function value that 'each' returns -/
abbrev eachV (bS : Nat) : Value := .func (.func 88) #[] #[.pointer (some ⟨bS, 0, none⟩)]

set_option maxHeartbeats 400000 in
theorem each_any (s : ByteArray) (w : World) :
    Calls Tryd.prog 60 #[.string s] w fun e w' => e = .returned (eachV w.heap.size) ∧ w' = w.alloc (.cells #[.string s] 9) := by
  go_enter Tryd.func60, Tryd.ntmps60
  go_wp2
  go_ret
  exact ⟨rfl, rfl⟩

theorem drop_extract (u : ByteArray) (n : Nat) (h : n ≤ u.size) : (u.extract n u.size).data.toList = u.data.toList.drop n := by
  rw [data_extract, List.take_of_length_le (by rw [len_data]; exact Nat.le_refl _)]

set_option maxRecDepth 100000 in
set_option maxHeartbeats 2000000 in
/-- each$1: all the characters come, in order, where every round goes on -/
theorem each1_in (n : Nat) (hn : 2 ≤ n) (l bS : Nat) (s : ByteArray) (hs : s.size ≤ 1099511627776) (J : List Int → World → Prop)
    (hT : ∀ pre A, J pre A → TabsAt A)
    (hset : ∀ pre A u, J pre A → J pre (A.setCell ⟨bS, 0, none⟩ (.string u)))
    (hbel : ∀ pre A B, J pre A → Below A.heap.size A B → J pre B)
    (hY : ∀ pre x W1, J pre W1 → encOk x = true → pre.length < s.size → YieldAt Fence.wide (n - 1) Tryd.prog l #[.int .i64 x] W1 fun e W' => e = .returned (.bool true) ∧ J (pre ++ [x]) W' ∧ W'.heap[bS]? = W1.heap[bS]?)
    (W : World) (h0 : Boxed W bS 9 (.string s)) (hJ0 : J [] W) :
    CallsIn Fence.wide n Tryd.prog 88 #[.func (.yield l) #[] #[], .pointer (some ⟨bS, 0, none⟩)] W fun e W' => (∃ v, e = .returned v) ∧ J (charsL s.data.toList) W' := by
  refine callsIn_of_wp Tryd.func88 rfl trivial ?_ rfl
  simp only [Tryd.ntmps88, List.size_toArray, List.length_cons, List.length_nil, Nat.reduceAdd, Nat.reduceSub, Array.replicate_succ, Array.replicate_zero, List.push_toArray, List.append_toArray, List.nil_append, List.cons_append]
  gi_wp2
  gi_loopw [3] (fun p wr => ∃ (pre : List Int) (u : ByteArray), Boxed wr bS 9 (.string u) ∧ Hid (pre.length + u.size ≤ s.size) ∧ Hid (charsL s.data.toList = pre ++ charsL u.data.toList) ∧ J pre wr)
    (fun p wr => match wr.cell? ⟨bS, 0, none⟩ with | some (.string u) => u.size | _ => 0)
  case atStart => exact ⟨[], s, h0, hid (by simp), hid rfl, hJ0⟩
  case round =>
    obtain ⟨pre, u, hbx, hl, hch, hJ⟩ := hrel
    have hc1 := hbx.cell
    have hf1 := hbx.frozen
    by_cases h0 : u.size = 0
    · obtain rfl : u = ⟨#[]⟩ := by
        have : u.data = #[] := Array.eq_empty_of_size_eq_zero h0
        cases u; simp_all
      gi_wp2
      go_end0
      refine ⟨⟨_, rfl⟩, ?_⟩
      have := hch.out
      have e : charsL (⟨#[]⟩ : ByteArray).data.toList = [] := rfl
      rw [e, List.append_nil] at this
      rw [this]; exact hJ
    · have hne : u.data.toList ≠ [] := by
        intro e
        have := len_data u
        rw [e] at this; exact h0 this.symm
      have hemp : u.toList.isEmpty = false := by
        rw [ByteArray.toList_eq]
        cases e : u.data.toList with
        | nil => exact absurd e hne
        | cons a t => rfl
      have Hne := hid hne
      have hdn := decN_pos u.data.toList hne
      rw [len_data] at hdn
      have Hdn := hid hdn
      clear hne hdn
      have hus : u.size ≤ 1099511627776 := by have := hl.out; omega
      gi_wp2_with fail
      refine ⟨trivial, fun _ => by omega, ?_⟩
      refine (callsIn_wide.2 (decode_any u _ hus (hT pre _ hJ))).mono ?_
      rintro e w1 ⟨c, k', rfl, hc, hk, hb1⟩
      obtain ⟨k, rfl⟩ : ∃ k : Nat, k' = (k : Int) := ⟨decN u.data.toList, hk.out⟩
      have Hk : Hid (decN u.data.toList = k) := hid (by have := hk.out; omega)
      have hkle : 1 ≤ k ∧ k ≤ u.size := by have := Hdn.out; rw [Hk.out] at this; exact this
      have hJ1 := hbel pre _ _ hJ hb1
      have hbx1 : Boxed w1 bS 9 (.string u) := (hb1.block bS hbx.lt).trans hbx
      have hc2 := hbx1.cell
      have hf2 := hbx1.frozen
      by_cases hcp : c ≤ 0
      · have HX : Hid (chrL u.data.toList = 65533) := hid (by unfold chrL; rw [← hc.out]; rw [if_pos hcp])
        have hch1 := chrL_ok u.data.toList
        rw [HX.out] at hch1
        have hlt : pre.length < s.size := by have := hl.out; omega
        obtain ⟨fn, tmps, assign, body, hy, hR⟩ := hY pre (65533) w1 hJ1 hch1.1 hlt
        clear hch1
        gi_wp2
        refine ⟨fun _ => by omega, hR.mono ?_⟩
        rintro e w2 ⟨rfl, hJ2, hbk⟩
        have hbx2 : Boxed w2 bS 9 (.string u) := hbk.trans hbx1
        have hc3 := hbx2.cell
        have hf3 := hbx2.frozen
        have hbx3 := hbx2.set (.string (u.extract k u.size))
        have hsz : (u.extract k u.size).size = u.size - k := by rw [ByteArray.size_extract]; omega
        have HSZ := hid hsz
        clear hsz
        gi_wp2
        go_roundw
        case rel =>
          refine ⟨pre ++ [65533], u.extract k u.size, hbx3, hid ?_, hid ?_, hset _ _ _ hJ2⟩
          · have := hl.out; rw [HSZ.out]; simp; omega
          · rw [hch.out, charsL_step _ Hne.out, drop_extract u k hkle.2, List.append_assoc, HX.out, Hk.out]; rfl
        case measure => rw [hbx3.cell, hbx.cell]; simp only []; rw [HSZ.out]; omega
      · have HX : Hid (chrL u.data.toList = c) := hid (by unfold chrL; rw [← hc.out]; rw [if_neg hcp])
        have hch1 := chrL_ok u.data.toList
        rw [HX.out] at hch1
        have hlt : pre.length < s.size := by have := hl.out; omega
        obtain ⟨fn, tmps, assign, body, hy, hR⟩ := hY pre (c) w1 hJ1 hch1.1 hlt
        clear hch1
        gi_wp2
        refine ⟨fun _ => by omega, hR.mono ?_⟩
        rintro e w2 ⟨rfl, hJ2, hbk⟩
        have hbx2 : Boxed w2 bS 9 (.string u) := hbk.trans hbx1
        have hc3 := hbx2.cell
        have hf3 := hbx2.frozen
        have hbx3 := hbx2.set (.string (u.extract k u.size))
        have hsz : (u.extract k u.size).size = u.size - k := by rw [ByteArray.size_extract]; omega
        have HSZ := hid hsz
        clear hsz
        gi_wp2
        go_roundw
        case rel =>
          refine ⟨pre ++ [c], u.extract k u.size, hbx3, hid ?_, hid ?_, hset _ _ _ hJ2⟩
          · have := hl.out; rw [HSZ.out]; simp; omega
          · rw [hch.out, charsL_step _ Hne.out, drop_extract u k hkle.2, List.append_assoc, HX.out, Hk.out]; rfl
        case measure => rw [hbx3.cell, hbx.cell]; simp only []; rw [HSZ.out]; omega
end Go.Proofs.YtihgmgpcdodknaaDoor
