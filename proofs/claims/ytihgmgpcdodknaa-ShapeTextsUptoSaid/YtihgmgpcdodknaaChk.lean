/- muslinref12.Check. -/
import Derived.Test.YtihgmgpcdodknaaWrd
import Derived.Test.YtihgmgpcdodknaaSam
import Derived.Test.YtihgmgpcdodknaaRefFd
import Derived.Deep.RegionHeld3
import Derived.Deep.Cut
import Derived.Deep.CutRange
import Derived.Deep.QuietTactic
import Derived.BigQuiet
set_option linter.unusedVariables false
namespace Go.Proofs.Ytihgmgpcdodknaa
open Go.RowKit

def pA (a : Att) : Bool := wordL a.1 [45] && repairL a.2 == a.2
def okA (k : Int) (n x : List UInt8) (ys : List Att) (c : Bool) : Bool := wordL n [] && (headNoDig n && (decide (n.length ≤ 32) && (x.isEmpty && (k == 1 || (!c && ys.isEmpty)))))
def okC (n : List UInt8) (ys : List Att) (c : Bool) : Bool := n.isEmpty && (ys.isEmpty && !c)
def okX (x : List UInt8) : Bool := x.isEmpty || (decide (Lib.index x [45, 45, 62] < 0) && (x.head? != some 45 && (x.head? != some 62 && x.getLast? != some 45)))
theorem chkI_lo (k : Int) (n x : List UInt8) (ys : List Att) (c : Bool) (h1 : ¬ k < 1) (h3 : k < 3) : chkI ⟨k, n, x, ys, c⟩ = if (okA k n x ys c && ys.all pA) then 0 else 9 := by
  unfold chkI chkB okA
  rw [if_neg (by show ¬ (k < 1 ∨ 4 < k); omega)]
  simp only [h3, if_true, Bool.and_assoc]
  rfl
theorem chkI_3 (n x : List UInt8) (ys : List Att) (c : Bool) : chkI ⟨3, n, x, ys, c⟩ = if (okC n ys c && (!x.isEmpty && repairL x == x)) then 0 else 9 := by
  unfold chkI chkB okC
  rw [if_neg (by show ¬ ((3 : Int) < 1 ∨ (4 : Int) < 3); omega)]
  simp [Bool.and_assoc]
theorem chkI_4 (n x : List UInt8) (ys : List Att) (c : Bool) : chkI ⟨4, n, x, ys, c⟩ = if (okC n ys c && okX x) then 0 else 9 := by
  unfold chkI chkB okC okX
  rw [if_neg (by show ¬ ((4 : Int) < 1 ∨ (4 : Int) < 4); omega)]
  simp [Bool.and_assoc]
theorem chkI_out (k : Int) (n x : List UInt8) (ys : List Att) (c : Bool) (h : k < 1 ∨ 4 < k) : chkI ⟨k, n, x, ys, c⟩ = 4 := by
  unfold chkI
  rw [if_pos h]
theorem size_zero {s : ByteArray} (h : s.toList.isEmpty = true) : s.size = 0 := by
  rw [ByteArray.toList_eq] at h
  rw [← len_data, List.isEmpty_iff.1 h]; rfl

set_option maxRecDepth 100000 in
set_option maxHeartbeats 12800000 in
theorem refCheck_any (t : Tk) (va : Value) (w : World) (ha : AtR w w.heap.size va t.ats) (hl : t.ats.length ≤ 1048576) (hn : t.n.length ≤ 1048576) (hx : t.x.length ≤ 1048576) (hb : ∀ a ∈ t.ats, a.1.length ≤ 1048576 ∧ a.2.length ≤ 1048576) :
    Calls Try.prog 46 #[.agg #[.int .i64 t.k, .string (bs t.n), .string (bs t.x), va, .bool t.c]] w fun e w' => e = .returned (.int .i64 (chkI t)) ∧ Below w.heap.size w w' := by
  obtain ⟨k, n, x, ys, c⟩ := t
  simp only at ha hl hn hx hb ⊢
  obtain ⟨A, ca, rfl, hra⟩ := ha
  obtain ⟨res, hres⟩ : ∃ res, chkI ⟨k, n, x, ys, c⟩ = res := ⟨_, rfl⟩
  rw [hres]
  have Hres := hid hres
  obtain ⟨sn, hsn⟩ : ∃ z, bs n = z := ⟨_, rfl⟩
  obtain ⟨sx, hsx⟩ : ∃ z, bs x = z := ⟨_, rfl⟩
  have hln : sn.data.toList = n := by rw [← hsn, bs_list]
  have hlx : sx.data.toList = x := by rw [← hsx, bs_list]
  have hzn : sn.size = n.length := by rw [← len_data, hln]
  have hzx : sx.size = x.length := by rw [← len_data, hlx]
  rw [hsn, hsx]
  have HW1 := hid (fun W => word_any sn ⟨#[]⟩ W (by omega) (by decide))
  rw [hln, show (⟨#[]⟩ : ByteArray).data.toList = [] from rfl] at HW1
  have HD0 := hid (fun (n : Int) (h0 : 0 ≤ n) (h1 : n ≤ 255) W => (refDigit_any n h0 h1 W).mono fun e w' h => (⟨h.1, h.2.symm⟩ : e = _ ∧ w' = W))
  have HR := hid (fun W => refRepair_any sx W (by omega))
  rw [hlx] at HR
  have HF := hid (fun W => (refFind_any sx ⟨#[45, 45, 62]⟩ (by omega) (by decide) W).mono fun e w' h => (⟨h.1, h.2.symm⟩ : e = _ ∧ w' = W))
  rw [hlx, show (⟨#[45, 45, 62]⟩ : ByteArray).data.toList = [45, 45, 62] from rfl] at HF
  obtain ⟨m, hm⟩ : ∃ m, ys.length = m := ⟨_, rfl⟩
  rw [hm] at hra hl ⊢
  have Hm := hid hm
  have Hra := hid hra
  have Hb := hid hb
  have hne : sn.toList.isEmpty = n.isEmpty := by rw [ByteArray.toList_eq, hln]
  have hxe : sx.toList.isEmpty = x.isEmpty := by rw [ByteArray.toList_eq, hlx]
  have Hln := hid hln
  have Hlx := hid hlx
  have hme : ((m : Int) == 0) = ys.isEmpty := by
    cases ys with
    | nil => rw [← hm]; rfl
    | cons a r => exact beq_eq_false_iff_ne.2 (by rw [← hm]; simp; omega)
  have hme2 : (m == 0) = ys.isEmpty := by
    cases ys with
    | nil => rw [← hm]; rfl
    | cons a r => exact beq_eq_false_iff_ne.2 (by rw [← hm]; simp)
  have hbW : Below w.heap.size w (w.alloc (.cells #[.int .i64 k, .string sn, .string sx, .slice A m ca, .bool c] 36)) := alloc_below w _
  have HT := hid (Blk.new w 36 #[.int .i64 k, .string sn, .string sx, .slice A m ca, .bool c])
  have HbW := hid hbW
  have Hzn := hid hzn
  have Hzx := hid hzx
  clear hm hra hb hres hsn hsx hbW hln hlx hzn hzx
  by_cases hk1 : k < 1
  · have e1 : decide (k < 1) = true := decide_eq_true hk1
    have Hr : Hid (res = 4) := hid (by rw [← Hres.out, chkI_out _ _ _ _ _ (.inl hk1)])
    go_enter Try.func46, Try.ntmps46
    go_wp2_with fail
    go_ret
    rw [Hr.out]
    exact ⟨rfl, HbW.out⟩
  · have e1 : decide (k < 1) = false := decide_eq_false hk1
    by_cases hk4 : 4 < k
    · have e4 : decide (4 < k) = true := decide_eq_true hk4
      have Hr : Hid (res = 4) := hid (by rw [← Hres.out, chkI_out _ _ _ _ _ (.inr hk4)])
      go_enter Try.func46, Try.ntmps46
      go_wp2_with fail
      go_ret
      rw [Hr.out]
      exact ⟨rfl, HbW.out⟩
    · have e4 : decide (4 < k) = false := decide_eq_false hk4
      by_cases hk3 : k < 3
      · have e3 : decide (k < 3) = true := decide_eq_true hk3
        have Hr : Hid (res = if (okA k n x ys c && ys.all pA) then 0 else 9) := hid (by rw [← Hres.out, chkI_lo _ _ _ _ _ hk1 hk3])
        go_enter Try.func46, Try.ntmps46
        go_upto_region 5 with fail
        obtain ⟨W, hW⟩ : ∃ W, w.alloc (.cells #[.int .i64 k, .string sn, .string sx, .slice A m ca, .bool c] 36) = W := ⟨_, rfl⟩
        rw [hW] at HT HbW ⊢
        obtain ⟨pt, hpt⟩ : ∃ pt, w.heap.size = pt := ⟨_, rfl⟩
        rw [hpt] at HT HbW Hra ⊢
        have Hpt := hid hpt
        clear hW hpt
        have T0 : W.cell? ⟨pt, 0, none⟩ = some (.int .i64 k) := (HT.out.cell 0).trans rfl
        have T1 : W.cell? ⟨pt, 1, none⟩ = some (.string sn) := (HT.out.cell 1).trans rfl
        have T2 : W.cell? ⟨pt, 2, none⟩ = some (.string sx) := (HT.out.cell 2).trans rfl
        have T3 : W.cell? ⟨pt, 3, none⟩ = some (.slice A m ca) := (HT.out.cell 3).trans rfl
        have T4 : W.cell? ⟨pt, 4, none⟩ = some (.bool c) := (HT.out.cell 4).trans rfl
        go_cut [3] from 17 to 53 (fun v3 wx => v3 = .bool (okA k n x ys c) ∧ wx = W)
        case first =>
          obtain ⟨b1, hb1⟩ : ∃ b, wordL n [] = b := ⟨_, rfl⟩
          rw [hb1] at HW1
          have Hb1 := hid hb1
          clear hb1
          cases b1 with
          | false =>
            go_wp2_with (go_at_call 66; refine (HW1.out _).mono ?_; rintro e2 w2 ⟨rfl, hw2⟩; subst w2)
            go_meet
            case rel => exact ⟨congrArg Value.bool (by unfold okA; rw [Hb1.out]; rfl), rfl⟩
          | true =>
            have hnn : n ≠ [] := fun e => by have := Hb1.out; rw [e] at this; revert this; decide
            have hpos : 0 < sn.size := by rw [Hzn.out]; exact List.length_pos_iff.2 hnn
            have hpi : (0 : Int) < (sn.size : Int) := by omega
            obtain ⟨d, hd', d0, d1, hdn⟩ := byteOf sn 0 hpos
            have HD := hid (HD0.out d d0 d1)
            have Hhead : Hid (headNoDig n = !isD (bOf d)) := hid (by
              have e1 := dropAt sn 0 hpos
              rw [List.drop_zero] at e1
              rw [← Hln.out, e1, ← hdn]
              rfl)
            clear hdn
            obtain ⟨b2, hb2⟩ : ∃ b, isD (bOf d) = b := ⟨_, rfl⟩
            rw [hb2] at HD Hhead
            clear hb2 hnn
            cases b2 with
            | true =>
              go_wp2_with (first | (go_at_call 66; refine (HW1.out _).mono ?_; rintro e2 w2 ⟨rfl, hw2⟩; subst w2) | (go_at_call 67; refine (HD.out _).mono ?_; rintro e2 w2 ⟨rfl, hw2⟩; subst w2))
              go_meet
              case rel => exact ⟨congrArg Value.bool (by unfold okA; rw [Hb1.out, Hhead.out]; rfl), rfl⟩
            | false =>
              by_cases h32 : n.length ≤ 32
              · have f32 : (sn.size : Int) ≤ 32 := by have := Hzn.out; omega
                have g32 : decide ((sn.size : Int) ≤ 32) = true := decide_eq_true f32
                obtain ⟨b4, hb4⟩ : ∃ b, x.isEmpty = b := ⟨_, rfl⟩
                rw [hb4] at hxe
                have Hb4 := hid hb4
                clear hb4
                cases b4 with
                | false =>
                  go_wp2_with (first | (go_at_call 66; refine (HW1.out _).mono ?_; rintro e2 w2 ⟨rfl, hw2⟩; subst w2) | (go_at_call 67; refine (HD.out _).mono ?_; rintro e2 w2 ⟨rfl, hw2⟩; subst w2))
                  go_meet
                  case rel => exact ⟨congrArg Value.bool (by unfold okA; rw [Hb4.out]; simp), rfl⟩
                | true =>
                  by_cases hk : k = 1
                  · subst hk
                    go_wp2_with (first | (go_at_call 66; refine (HW1.out _).mono ?_; rintro e2 w2 ⟨rfl, hw2⟩; subst w2) | (go_at_call 67; refine (HD.out _).mono ?_; rintro e2 w2 ⟨rfl, hw2⟩; subst w2))
                    go_meet
                    case rel => exact ⟨congrArg Value.bool (by unfold okA; rw [Hb1.out, Hhead.out, Hb4.out, decide_eq_true h32]; rfl), rfl⟩
                  · have fk : (k == 1) = false := beq_eq_false_iff_ne.2 hk
                    cases c with
                    | true =>
                      go_wp2_with (first | (go_at_call 66; refine (HW1.out _).mono ?_; rintro e2 w2 ⟨rfl, hw2⟩; subst w2) | (go_at_call 67; refine (HD.out _).mono ?_; rintro e2 w2 ⟨rfl, hw2⟩; subst w2))
                      go_meet
                      case rel => exact ⟨congrArg Value.bool (by unfold okA; rw [fk]; simp), rfl⟩
                    | false =>
                      obtain ⟨b5, hb5⟩ : ∃ b, ys.isEmpty = b := ⟨_, rfl⟩
                      rw [hb5] at hme hme2
                      have Hb5 := hid hb5
                      clear hb5
                      go_wp2_with (first | (go_at_call 66; refine (HW1.out _).mono ?_; rintro e2 w2 ⟨rfl, hw2⟩; subst w2) | (go_at_call 67; refine (HD.out _).mono ?_; rintro e2 w2 ⟨rfl, hw2⟩; subst w2))
                      go_meet
                      case rel => exact ⟨congrArg Value.bool (by unfold okA; rw [Hb1.out, Hhead.out, Hb4.out, decide_eq_true h32, fk, Hb5.out]; simp), rfl⟩
              · have f32 : ¬ (sn.size : Int) ≤ 32 := by have := Hzn.out; omega
                have g32 : decide ((sn.size : Int) ≤ 32) = false := decide_eq_false f32
                go_wp2_with (first | (go_at_call 66; refine (HW1.out _).mono ?_; rintro e2 w2 ⟨rfl, hw2⟩; subst w2) | (go_at_call 67; refine (HD.out _).mono ?_; rintro e2 w2 ⟨rfl, hw2⟩; subst w2))
                go_meet
                case rel => exact ⟨congrArg Value.bool (by unfold okA; rw [decide_eq_false h32]; simp), rfl⟩
        case rest =>
          obtain ⟨rfl, hwc⟩ := hcut
          subst hwc
          obtain ⟨ok0, hok0⟩ : ∃ b, okA k n x ys c = b := ⟨_, rfl⟩
          rw [hok0] at Hr ⊢
          have Hok0 := hid hok0
          have hpt1 := HT.out.lt
          clear hok0 T0 T1 T2 T4
          go_wp2_with fail
          go_loopg [3, 4] m (fun g v3 v4 wr => ∃ (i : Nat) (ob : Bool), v3 = .bool ob ∧ v4 = .int .i64 (i : Int) ∧ i ≤ m ∧ g = m - i ∧ Hid (ob = (ok0 && (ys.take i).all pA)) ∧ Hid (Below wc.heap.size wc wr))
          case atStart => exact ⟨0, ok0, rfl, rfl, Nat.zero_le _, rfl, hid (by simp), hid (Below.refl _ _)⟩
          case round =>
            obtain ⟨i, ob, rfl, rfl, hi, rfl, hob, hbr⟩ := hrel
            have P3 : wr.cell? ⟨pt, 3, none⟩ = some (.slice A m ca) := cell_aft hbr.out hpt1 T3
            have hi0 : (0 : Int) ≤ (i : Int) := by omega
            have hptr : pt < wr.heap.size := Nat.lt_of_lt_of_le hpt1 hbr.out.size
            clear T3
            by_cases hlt : i < m
            · have hlt1 : i < ys.length := by rw [Hm.out]; exact hlt
              have hil : (i : Int) < (m : Int) := by omega
              have hild : decide ((i : Int) < (m : Int)) = true := decide_eq_true hil
              obtain ⟨ae, rfl, haeb, q1, q2⟩ := at_cells (by rw [Hm.out]; exact (Hra.out.below HbW.out).below (hbr.out.mono (Nat.le_of_lt hpt1))) hlt1
              have haer : (ae.add (i * 2)).block < wr.heap.size := by rw [block_of_add]; omega
              obtain ⟨s1, hs1⟩ : ∃ z, bs ys[i].1 = z := ⟨_, rfl⟩
              obtain ⟨s2, hs2⟩ : ∃ z, bs ys[i].2 = z := ⟨_, rfl⟩
              rw [hs1] at q1
              rw [hs2] at q2
              have hl1 : s1.data.toList = ys[i].1 := by rw [← hs1, bs_list]
              have hl2 : s2.data.toList = ys[i].2 := by rw [← hs2, bs_list]
              have hz1 : s1.size = ys[i].1.length := by rw [← len_data, hl1]
              have hz2 : s2.size = ys[i].2.length := by rw [← len_data, hl2]
              have hbi := Hb.out _ (List.getElem_mem hlt1)
              have HWa := hid (fun W => word_any s1 ⟨#[45]⟩ W (by omega) (by decide))
              rw [hl1, show (⟨#[45]⟩ : ByteArray).data.toList = [45] from rfl] at HWa
              have HRa := hid (fun W => refRepair_any s2 W (by omega))
              rw [hl2] at HRa
              have Hl2 := hid hl2
              have Hall : Hid ((ys.take (i + 1)).all pA = ((ys.take i).all pA && (wordL ys[i].1 [45] && repairL ys[i].2 == ys[i].2))) := hid (by rw [List.take_succ_eq_append_getElem hlt1, List.all_append]; simp [pA])
              have hi1 : i + 1 ≤ m := by omega
              clear hs1 hs2 hl1 hl2 hz1 hz2 hbi
              obtain ⟨wb, hwb⟩ : ∃ b, wordL ys[i].1 [45] = b := ⟨_, rfl⟩
              rw [hwb] at HWa Hall
              clear hwb
              cases ob with
              | false =>
                go_wp2_with fail
                refine wp_region_noPanic ?_
                refine wp_region_held_drew (S := fun w' => w'.cell? ⟨pt, 3, none⟩ = some (.slice (some ae) m ca) ∧ w'.cell? (ae.add (i * 2)) = some (.string s1) ∧ w'.cell? ⟨(ae.add (i * 2)).block, (ae.add (i * 2)).off + 1, none⟩ = some (.string s2) ∧ Below wr.heap.size wr w') (by kernel_rfl) ⟨P3, q1, q2, (Below.refl _ _).drew⟩ (fun hHeld => ?_)
                refine wpAnyH_take (i := 0) (oi := ⟨some 61, _, _, _, _, _⟩) (v := ?_) rfl (by kernel_rfl) (by kernel_rfl) (by kernel_rfl) (fun _ _ _ h => h) (Or.inl ⟨by rfl, ?_⟩) (by assumption) ?_
                rotate_left 1
                · intro w hSw
                  go_split_ands
                  go_simp
                  try with_reducible rfl
                try simp only [Act.put, List.setIfInBounds_toArray, List.set_cons_zero, List.set_cons_succ]
                refine wpAnyH_take (i := 1) (oi := ⟨some 62, _, _, _, _, _⟩) (v := ?_) rfl (by kernel_rfl) (by kernel_rfl) (by kernel_rfl) (fun _ _ _ h => h) (Or.inl ⟨by rfl, ?_⟩) (by assumption) ?_
                rotate_left 1
                · intro w hSw
                  go_split_ands
                  go_simp
                  try with_reducible rfl
                try simp only [Act.put, List.setIfInBounds_toArray, List.set_cons_zero, List.set_cons_succ]
                refine wpAnyH_take (i := 2) (oi := ⟨some 63, _, _, _, _, _⟩) (v := undef) rfl (by kernel_rfl) (by kernel_rfl) (by kernel_rfl) (fun _ _ _ h => h) (Or.inr ⟨by rfl, rfl⟩) (by assumption) ?_
                try simp only [Act.put, List.setIfInBounds_toArray, List.set_cons_zero, List.set_cons_succ]
                refine wpAnyH_take (i := 3) (oi := ⟨some 64, _, _, _, _, _⟩) (v := undef) rfl (by kernel_rfl) (by kernel_rfl) (by kernel_rfl) (fun _ _ _ h => h) (Or.inr ⟨by rfl, rfl⟩) (by assumption) ?_
                try simp only [Act.put, List.setIfInBounds_toArray, List.set_cons_zero, List.set_cons_succ]
                refine wpAnyH_take (i := 4) (oi := ⟨some 65, _, _, _, _, _⟩) (v := undef) rfl (by kernel_rfl) (by kernel_rfl) (by kernel_rfl) (fun _ _ _ h => h) (Or.inr ⟨by rfl, rfl⟩) (by assumption) ?_
                try simp only [Act.put, List.setIfInBounds_toArray, List.set_cons_zero, List.set_cons_succ]
                refine wpAnyH_take (i := 5) (oi := ⟨some 66, _, _, _, _, _⟩) (v := undef) rfl (by kernel_rfl) (by kernel_rfl) (by kernel_rfl) (fun _ _ _ h => h) (Or.inr ⟨by rfl, rfl⟩) (by assumption) ?_
                try simp only [Act.put, List.setIfInBounds_toArray, List.set_cons_zero, List.set_cons_succ]
                refine wpAnyH_take (i := 6) (oi := ⟨some 67, _, _, _, _, _⟩) (v := undef) rfl (by kernel_rfl) (by kernel_rfl) (by kernel_rfl) (fun _ _ _ h => h) (Or.inr ⟨by rfl, rfl⟩) (by assumption) ?_
                try simp only [Act.put, List.setIfInBounds_toArray, List.set_cons_zero, List.set_cons_succ]
                refine wpAnyH_take (i := 7) (oi := ⟨some 68, _, _, _, _, _⟩) (v := undef) rfl (by kernel_rfl) (by kernel_rfl) (by kernel_rfl) (fun _ _ _ h => h) (Or.inr ⟨by rfl, rfl⟩) (by assumption) ?_
                try simp only [Act.put, List.setIfInBounds_toArray, List.set_cons_zero, List.set_cons_succ]
                refine wpAnyH_take (i := 8) (oi := ⟨some 69, _, _, _, _, _⟩) (v := undef) rfl (by kernel_rfl) (by kernel_rfl) (by kernel_rfl) (fun _ _ _ h => h) (Or.inr ⟨by rfl, rfl⟩) (by assumption) ?_
                try simp only [Act.put, List.setIfInBounds_toArray, List.set_cons_zero, List.set_cons_succ]
                refine wpAnyH_take (i := 9) (oi := ⟨some 70, _, _, _, _, _⟩) (v := ?_) rfl (by kernel_rfl) (by kernel_rfl) (by kernel_rfl) (fun _ _ _ h => h) (Or.inl ⟨by rfl, ?_⟩) (by assumption) ?_
                rotate_left 1
                · intro w hSw
                  go_split_ands
                  go_simp
                  try with_reducible rfl
                try simp only [Act.put, List.setIfInBounds_toArray, List.set_cons_zero, List.set_cons_succ]
                refine wpAnyH_take (i := 10) (oi := ⟨some 71, _, _, _, _, _⟩) (v := ?_) rfl (by kernel_rfl) (by kernel_rfl) (by kernel_rfl) (fun _ _ _ h => h) (Or.inl ⟨by rfl, ?_⟩) (by assumption) ?_
                rotate_left 1
                · intro w hSw
                  go_split_ands
                  go_simp
                  try with_reducible rfl
                try simp only [Act.put, List.setIfInBounds_toArray, List.set_cons_zero, List.set_cons_succ]
                refine wpAnyH_take (i := 11) (oi := ⟨some 72, _, _, _, _, _⟩) (v := undef) rfl (by kernel_rfl) (by kernel_rfl) (by kernel_rfl) (fun _ _ _ h => h) (Or.inr ⟨by rfl, rfl⟩) (by assumption) ?_
                try simp only [Act.put, List.setIfInBounds_toArray, List.set_cons_zero, List.set_cons_succ]
                refine wpAnyH_take (i := 12) (oi := ⟨some 73, _, _, _, _, _⟩) (v := undef) rfl (by kernel_rfl) (by kernel_rfl) (by kernel_rfl) (fun _ _ _ h => h) (Or.inr ⟨by rfl, rfl⟩) (by assumption) ?_
                try simp only [Act.put, List.setIfInBounds_toArray, List.set_cons_zero, List.set_cons_succ]
                refine wpAnyH_take (i := 13) (oi := ⟨some 74, _, _, _, _, _⟩) (v := undef) rfl (by kernel_rfl) (by kernel_rfl) (by kernel_rfl) (fun _ _ _ h => h) (Or.inr ⟨by rfl, rfl⟩) (by assumption) ?_
                try simp only [Act.put, List.setIfInBounds_toArray, List.set_cons_zero, List.set_cons_succ]
                refine wpAnyH_take (i := 14) (oi := ⟨some 75, _, _, _, _, _⟩) (v := undef) rfl (by kernel_rfl) (by kernel_rfl) (by kernel_rfl) (fun _ _ _ h => h) (Or.inr ⟨by rfl, rfl⟩) (by assumption) ?_
                try simp only [Act.put, List.setIfInBounds_toArray, List.set_cons_zero, List.set_cons_succ]
                refine wpAnyH_take (i := 15) (oi := ⟨some 76, _, _, _, _, _⟩) (v := undef) rfl (by kernel_rfl) (by kernel_rfl) (by kernel_rfl) (fun _ _ _ h => h) (Or.inr ⟨by rfl, rfl⟩) (by assumption) ?_
                try simp only [Act.put, List.setIfInBounds_toArray, List.set_cons_zero, List.set_cons_succ]
                refine wpAnyH_take (i := 16) (oi := ⟨some 77, _, _, _, _, _⟩) (v := undef) rfl (by kernel_rfl) (by kernel_rfl) (by kernel_rfl) (fun _ _ _ h => h) (Or.inr ⟨by rfl, rfl⟩) (by assumption) ?_
                try simp only [Act.put, List.setIfInBounds_toArray, List.set_cons_zero, List.set_cons_succ]
                refine wpAnyH_take (i := 18) (oi := ⟨some 79, _, _, _, _, _⟩) (v := undef) rfl (by kernel_rfl) (by kernel_rfl) (by kernel_rfl) (fun _ _ _ h => h) (Or.inr ⟨by rfl, rfl⟩) (by assumption) ?_
                try simp only [Act.put, List.setIfInBounds_toArray, List.set_cons_zero, List.set_cons_succ]
                refine wpAnyH_take (i := 19) (oi := ⟨some 80, _, _, _, _, _⟩) (v := undef) rfl (by kernel_rfl) (by kernel_rfl) (by kernel_rfl) (fun _ _ _ h => h) (Or.inr ⟨by rfl, rfl⟩) (by assumption) ?_
                try simp only [Act.put, List.setIfInBounds_toArray, List.set_cons_zero, List.set_cons_succ]
                refine wpAnyH_take (i := 20) (oi := ⟨some 81, _, _, _, _, _⟩) (v := undef) rfl (by kernel_rfl) (by kernel_rfl) (by kernel_rfl) (fun _ _ _ h => h) (Or.inr ⟨by rfl, rfl⟩) (by assumption) ?_
                try simp only [Act.put, List.setIfInBounds_toArray, List.set_cons_zero, List.set_cons_succ]
                refine wpAnyH_take (i := 21) (oi := ⟨some 82, _, _, _, _, _⟩) (v := undef) rfl (by kernel_rfl) (by kernel_rfl) (by kernel_rfl) (fun _ _ _ h => h) (Or.inr ⟨by rfl, rfl⟩) (by assumption) ?_
                try simp only [Act.put, List.setIfInBounds_toArray, List.set_cons_zero, List.set_cons_succ]
                refine wpAnyH_take (i := 22) (oi := ⟨some 83, _, _, _, _, _⟩) (v := undef) rfl (by kernel_rfl) (by kernel_rfl) (by kernel_rfl) (fun _ _ _ h => h) (Or.inr ⟨by rfl, rfl⟩) (by assumption) ?_
                try simp only [Act.put, List.setIfInBounds_toArray, List.set_cons_zero, List.set_cons_succ]
                refine wpAnyH_take (i := 23) (oi := ⟨some 84, _, _, _, _, _⟩) (v := undef) rfl (by kernel_rfl) (by kernel_rfl) (by kernel_rfl) (fun _ _ _ h => h) (Or.inr ⟨by rfl, rfl⟩) (by assumption) ?_
                try simp only [Act.put, List.setIfInBounds_toArray, List.set_cons_zero, List.set_cons_succ]
                refine wpAnyH_take (i := 17) (oi := ⟨some 78, _, _, _, _, _⟩) (v := undef) rfl (by kernel_rfl) (by kernel_rfl) (by kernel_rfl) (fun _ _ _ h => h) (Or.inr ⟨by rfl, rfl⟩) (by assumption) ?_
                try simp only [Act.put, List.setIfInBounds_toArray, List.set_cons_zero, List.set_cons_succ]
                refine wpAnyH_take (i := 24) (oi := ⟨some 85, _, _, _, _, _⟩) (v := undef) rfl (by kernel_rfl) (by kernel_rfl) (by kernel_rfl) (fun _ _ _ h => h) (Or.inr ⟨by rfl, rfl⟩) (by assumption) ?_
                try simp only [Act.put, List.setIfInBounds_toArray, List.set_cons_zero, List.set_cons_succ]
                refine wpAnyH_take (i := 25) (oi := ⟨some 86, _, _, _, _, _⟩) (v := ?_) rfl (by kernel_rfl) (by kernel_rfl) (by kernel_rfl) (fun _ _ _ h => h) (Or.inl ⟨by rfl, ?_⟩) (by assumption) ?_
                rotate_left 1
                · intro w hSw
                  go_split_ands
                  go_simp
                  try with_reducible rfl
                try simp only [Act.put, List.setIfInBounds_toArray, List.set_cons_zero, List.set_cons_succ]
                refine wpAnyH_take (i := 26) (oi := ⟨some 3, _, _, _, _, _⟩) (v := ?_) rfl (by kernel_rfl) (by kernel_rfl) (by kernel_rfl) (fun _ _ _ h => h) (Or.inl ⟨by rfl, ?_⟩) (by assumption) ?_
                rotate_left 1
                · intro w hSw
                  go_split_ands
                  go_simp
                  try with_reducible rfl
                try simp only [Act.put, List.setIfInBounds_toArray, List.set_cons_zero, List.set_cons_succ]
                refine wpAnyH_done (by kernel_rfl) ?_ _
                refine NoPanic.normal ?_
                go_wp2_with fail
                go_roundg (m - (i + 1))
                case measure => omega
                case rel => exact ⟨i + 1, false, rfl, by go_num, hi1, rfl, hid (by rw [Hall.out, ← Bool.and_assoc, ← hob.out]; rfl), hid (hbr.out.trans (below_dN _ _ _))⟩
              | true =>
                cases wb with
                | false =>
                  go_wp2_with fail
                  refine wp_region_noPanic ?_
                  refine wp_region_held_drew (S := fun w' => w'.cell? ⟨pt, 3, none⟩ = some (.slice (some ae) m ca) ∧ w'.cell? (ae.add (i * 2)) = some (.string s1) ∧ w'.cell? ⟨(ae.add (i * 2)).block, (ae.add (i * 2)).off + 1, none⟩ = some (.string s2) ∧ Below wr.heap.size wr w') (by kernel_rfl) ⟨P3, q1, q2, (Below.refl _ _).drew⟩ (fun hHeld => ?_)
                  refine wpAnyH_take (i := 0) (oi := ⟨some 61, _, _, _, _, _⟩) (v := ?_) rfl (by kernel_rfl) (by kernel_rfl) (by kernel_rfl) (fun _ _ _ h => h) (Or.inl ⟨by rfl, ?_⟩) (by assumption) ?_
                  rotate_left 1
                  · intro w hSw
                    go_split_ands
                    go_simp
                    try with_reducible rfl
                  try simp only [Act.put, List.setIfInBounds_toArray, List.set_cons_zero, List.set_cons_succ]
                  refine wpAnyH_take (i := 1) (oi := ⟨some 62, _, _, _, _, _⟩) (v := ?_) rfl (by kernel_rfl) (by kernel_rfl) (by kernel_rfl) (fun _ _ _ h => h) (Or.inl ⟨by rfl, ?_⟩) (by assumption) ?_
                  rotate_left 1
                  · intro w hSw
                    go_split_ands
                    go_simp
                    try with_reducible rfl
                  try simp only [Act.put, List.setIfInBounds_toArray, List.set_cons_zero, List.set_cons_succ]
                  refine wpAnyH_take (i := 2) (oi := ⟨some 63, _, _, _, _, _⟩) (v := ?_) rfl (by kernel_rfl) (by kernel_rfl) (by kernel_rfl) (fun _ _ _ h => h) (Or.inl ⟨by rfl, ?_⟩) (by assumption) ?_
                  rotate_left 1
                  · intro w hSw
                    go_split_ands
                    go_simp
                    try with_reducible rfl
                  try simp only [Act.put, List.setIfInBounds_toArray, List.set_cons_zero, List.set_cons_succ]
                  refine wpAnyH_take (i := 3) (oi := ⟨some 64, _, _, _, _, _⟩) (v := ?_) rfl (by kernel_rfl) (by kernel_rfl) (by kernel_rfl) (fun _ _ _ h => h) (Or.inl ⟨by rfl, ?_⟩) (by assumption) ?_
                  rotate_left 1
                  · intro w hSw
                    go_split_ands
                    go_simp
                    try with_reducible rfl
                  try simp only [Act.put, List.setIfInBounds_toArray, List.set_cons_zero, List.set_cons_succ]
                  refine wpAnyH_take (i := 4) (oi := ⟨some 65, _, _, _, _, _⟩) (v := ?_) rfl (by kernel_rfl) (by kernel_rfl) (by kernel_rfl) (fun _ _ _ h => h) (Or.inl ⟨by rfl, ?_⟩) (by assumption) ?_
                  rotate_left 1
                  · intro w hSw
                    go_split_ands
                    go_simp
                    try with_reducible rfl
                  try simp only [Act.put, List.setIfInBounds_toArray, List.set_cons_zero, List.set_cons_succ]
                  refine wpAnyH_take (i := 5) (oi := ⟨some 66, _, _, _, _, _⟩) (v := ?_) rfl (by kernel_rfl) (by kernel_rfl) (by kernel_rfl) (fun _ _ _ h => h) (Or.inl ⟨by rfl, ?_⟩) (by assumption) ?_
                  rotate_left 1
                  · intro w hSw
                    go_split_ands
                    go_simp
                    try with_reducible rfl
                  try simp only [Act.put, List.setIfInBounds_toArray, List.set_cons_zero, List.set_cons_succ]
                  refine wpAnyH_take (i := 6) (oi := ⟨some 67, _, _, _, _, _⟩) (v := ?_) rfl (by kernel_rfl) (by kernel_rfl) (by kernel_rfl) (fun _ _ _ h => h) (Or.inl ⟨by rfl, ?_⟩) (by assumption) ?_
                  rotate_left 1
                  · intro w hSw
                    go_split_ands
                    go_simp
                    try with_reducible rfl
                  try simp only [Act.put, List.setIfInBounds_toArray, List.set_cons_zero, List.set_cons_succ]
                  refine wpAnyH_take (i := 7) (oi := ⟨some 68, _, _, _, _, _⟩) (v := ?_) rfl (by kernel_rfl) (by kernel_rfl) (by kernel_rfl) (fun _ _ _ h => h) (Or.inl ⟨by rfl, ?_⟩) (by assumption) ?_
                  rotate_left 1
                  · intro w hSw
                    go_split_ands
                    go_simp
                    try with_reducible rfl
                  try simp only [Act.put, List.setIfInBounds_toArray, List.set_cons_zero, List.set_cons_succ]
                  refine wpAnyH_ready (rs := [8]) (by kernel_rfl) (by simp) ?_
                  refine AllReadyH.cons (o := ⟨some 69, _, _, _, _, _⟩) rfl (fun K hK => ?_) AllReadyH.nil
                  go_simp
                  go_at_call 66
                  refine (HWa.out _).mono ?_
                  rintro e2 w2 ⟨rfl, hw2⟩
                  subst w2
                  dsimp only
                  refine hK.out _ _ hHeld (fun _ => ?_)
                  clear hK K
                  try simp only [Act.put, List.setIfInBounds_toArray, List.set_cons_zero, List.set_cons_succ]
                  refine wpAnyH_take (i := 9) (oi := ⟨some 70, _, _, _, _, _⟩) (v := ?_) rfl (by kernel_rfl) (by kernel_rfl) (by kernel_rfl) (fun _ _ _ h => h) (Or.inl ⟨by rfl, ?_⟩) (by assumption) ?_
                  rotate_left 1
                  · intro w hSw
                    go_split_ands
                    go_simp
                    try with_reducible rfl
                  try simp only [Act.put, List.setIfInBounds_toArray, List.set_cons_zero, List.set_cons_succ]
                  refine wpAnyH_take (i := 10) (oi := ⟨some 71, _, _, _, _, _⟩) (v := ?_) rfl (by kernel_rfl) (by kernel_rfl) (by kernel_rfl) (fun _ _ _ h => h) (Or.inl ⟨by rfl, ?_⟩) (by assumption) ?_
                  rotate_left 1
                  · intro w hSw
                    go_split_ands
                    go_simp
                    try with_reducible rfl
                  try simp only [Act.put, List.setIfInBounds_toArray, List.set_cons_zero, List.set_cons_succ]
                  refine wpAnyH_take (i := 11) (oi := ⟨some 72, _, _, _, _, _⟩) (v := undef) rfl (by kernel_rfl) (by kernel_rfl) (by kernel_rfl) (fun _ _ _ h => h) (Or.inr ⟨by rfl, rfl⟩) (by assumption) ?_
                  try simp only [Act.put, List.setIfInBounds_toArray, List.set_cons_zero, List.set_cons_succ]
                  refine wpAnyH_take (i := 12) (oi := ⟨some 73, _, _, _, _, _⟩) (v := undef) rfl (by kernel_rfl) (by kernel_rfl) (by kernel_rfl) (fun _ _ _ h => h) (Or.inr ⟨by rfl, rfl⟩) (by assumption) ?_
                  try simp only [Act.put, List.setIfInBounds_toArray, List.set_cons_zero, List.set_cons_succ]
                  refine wpAnyH_take (i := 13) (oi := ⟨some 74, _, _, _, _, _⟩) (v := undef) rfl (by kernel_rfl) (by kernel_rfl) (by kernel_rfl) (fun _ _ _ h => h) (Or.inr ⟨by rfl, rfl⟩) (by assumption) ?_
                  try simp only [Act.put, List.setIfInBounds_toArray, List.set_cons_zero, List.set_cons_succ]
                  refine wpAnyH_take (i := 14) (oi := ⟨some 75, _, _, _, _, _⟩) (v := undef) rfl (by kernel_rfl) (by kernel_rfl) (by kernel_rfl) (fun _ _ _ h => h) (Or.inr ⟨by rfl, rfl⟩) (by assumption) ?_
                  try simp only [Act.put, List.setIfInBounds_toArray, List.set_cons_zero, List.set_cons_succ]
                  refine wpAnyH_take (i := 15) (oi := ⟨some 76, _, _, _, _, _⟩) (v := undef) rfl (by kernel_rfl) (by kernel_rfl) (by kernel_rfl) (fun _ _ _ h => h) (Or.inr ⟨by rfl, rfl⟩) (by assumption) ?_
                  try simp only [Act.put, List.setIfInBounds_toArray, List.set_cons_zero, List.set_cons_succ]
                  refine wpAnyH_take (i := 16) (oi := ⟨some 77, _, _, _, _, _⟩) (v := undef) rfl (by kernel_rfl) (by kernel_rfl) (by kernel_rfl) (fun _ _ _ h => h) (Or.inr ⟨by rfl, rfl⟩) (by assumption) ?_
                  try simp only [Act.put, List.setIfInBounds_toArray, List.set_cons_zero, List.set_cons_succ]
                  refine wpAnyH_take (i := 18) (oi := ⟨some 79, _, _, _, _, _⟩) (v := undef) rfl (by kernel_rfl) (by kernel_rfl) (by kernel_rfl) (fun _ _ _ h => h) (Or.inr ⟨by rfl, rfl⟩) (by assumption) ?_
                  try simp only [Act.put, List.setIfInBounds_toArray, List.set_cons_zero, List.set_cons_succ]
                  refine wpAnyH_take (i := 19) (oi := ⟨some 80, _, _, _, _, _⟩) (v := undef) rfl (by kernel_rfl) (by kernel_rfl) (by kernel_rfl) (fun _ _ _ h => h) (Or.inr ⟨by rfl, rfl⟩) (by assumption) ?_
                  try simp only [Act.put, List.setIfInBounds_toArray, List.set_cons_zero, List.set_cons_succ]
                  refine wpAnyH_take (i := 20) (oi := ⟨some 81, _, _, _, _, _⟩) (v := undef) rfl (by kernel_rfl) (by kernel_rfl) (by kernel_rfl) (fun _ _ _ h => h) (Or.inr ⟨by rfl, rfl⟩) (by assumption) ?_
                  try simp only [Act.put, List.setIfInBounds_toArray, List.set_cons_zero, List.set_cons_succ]
                  refine wpAnyH_take (i := 21) (oi := ⟨some 82, _, _, _, _, _⟩) (v := undef) rfl (by kernel_rfl) (by kernel_rfl) (by kernel_rfl) (fun _ _ _ h => h) (Or.inr ⟨by rfl, rfl⟩) (by assumption) ?_
                  try simp only [Act.put, List.setIfInBounds_toArray, List.set_cons_zero, List.set_cons_succ]
                  refine wpAnyH_take (i := 22) (oi := ⟨some 83, _, _, _, _, _⟩) (v := undef) rfl (by kernel_rfl) (by kernel_rfl) (by kernel_rfl) (fun _ _ _ h => h) (Or.inr ⟨by rfl, rfl⟩) (by assumption) ?_
                  try simp only [Act.put, List.setIfInBounds_toArray, List.set_cons_zero, List.set_cons_succ]
                  refine wpAnyH_take (i := 23) (oi := ⟨some 84, _, _, _, _, _⟩) (v := undef) rfl (by kernel_rfl) (by kernel_rfl) (by kernel_rfl) (fun _ _ _ h => h) (Or.inr ⟨by rfl, rfl⟩) (by assumption) ?_
                  try simp only [Act.put, List.setIfInBounds_toArray, List.set_cons_zero, List.set_cons_succ]
                  refine wpAnyH_take (i := 17) (oi := ⟨some 78, _, _, _, _, _⟩) (v := undef) rfl (by kernel_rfl) (by kernel_rfl) (by kernel_rfl) (fun _ _ _ h => h) (Or.inr ⟨by rfl, rfl⟩) (by assumption) ?_
                  try simp only [Act.put, List.setIfInBounds_toArray, List.set_cons_zero, List.set_cons_succ]
                  refine wpAnyH_take (i := 24) (oi := ⟨some 85, _, _, _, _, _⟩) (v := undef) rfl (by kernel_rfl) (by kernel_rfl) (by kernel_rfl) (fun _ _ _ h => h) (Or.inr ⟨by rfl, rfl⟩) (by assumption) ?_
                  try simp only [Act.put, List.setIfInBounds_toArray, List.set_cons_zero, List.set_cons_succ]
                  refine wpAnyH_take (i := 25) (oi := ⟨some 86, _, _, _, _, _⟩) (v := ?_) rfl (by kernel_rfl) (by kernel_rfl) (by kernel_rfl) (fun _ _ _ h => h) (Or.inl ⟨by rfl, ?_⟩) (by assumption) ?_
                  rotate_left 1
                  · intro w hSw
                    go_split_ands
                    go_simp
                    try with_reducible rfl
                  try simp only [Act.put, List.setIfInBounds_toArray, List.set_cons_zero, List.set_cons_succ]
                  refine wpAnyH_take (i := 26) (oi := ⟨some 3, _, _, _, _, _⟩) (v := ?_) rfl (by kernel_rfl) (by kernel_rfl) (by kernel_rfl) (fun _ _ _ h => h) (Or.inl ⟨by rfl, ?_⟩) (by assumption) ?_
                  rotate_left 1
                  · intro w hSw
                    go_split_ands
                    go_simp
                    try with_reducible rfl
                  try simp only [Act.put, List.setIfInBounds_toArray, List.set_cons_zero, List.set_cons_succ]
                  refine wpAnyH_done (by kernel_rfl) ?_ _
                  refine NoPanic.normal ?_
                  go_wp2_with fail
                  go_roundg (m - (i + 1))
                  case measure => omega
                  case rel => exact ⟨i + 1, false, rfl, by go_num, hi1, rfl, hid (by rw [Hall.out, ← Bool.and_assoc, ← hob.out]; rfl), hid (hbr.out.trans (below_dN _ _ _))⟩
                | true =>
                  go_wp2_with fail
                  refine wp_region_noPanic ?_
                  refine wp_region_held_drew (S := fun w' => w'.cell? ⟨pt, 3, none⟩ = some (.slice (some ae) m ca) ∧ w'.cell? (ae.add (i * 2)) = some (.string s1) ∧ w'.cell? ⟨(ae.add (i * 2)).block, (ae.add (i * 2)).off + 1, none⟩ = some (.string s2) ∧ Below wr.heap.size wr w') (by kernel_rfl) ⟨P3, q1, q2, (Below.refl _ _).drew⟩ (fun hHeld => ?_)
                  refine wpAnyH_take (i := 0) (oi := ⟨some 61, _, _, _, _, _⟩) (v := ?_) rfl (by kernel_rfl) (by kernel_rfl) (by kernel_rfl) (fun _ _ _ h => h) (Or.inl ⟨by rfl, ?_⟩) (by assumption) ?_
                  rotate_left 1
                  · intro w hSw
                    go_split_ands
                    go_simp
                    try with_reducible rfl
                  try simp only [Act.put, List.setIfInBounds_toArray, List.set_cons_zero, List.set_cons_succ]
                  refine wpAnyH_take (i := 1) (oi := ⟨some 62, _, _, _, _, _⟩) (v := ?_) rfl (by kernel_rfl) (by kernel_rfl) (by kernel_rfl) (fun _ _ _ h => h) (Or.inl ⟨by rfl, ?_⟩) (by assumption) ?_
                  rotate_left 1
                  · intro w hSw
                    go_split_ands
                    go_simp
                    try with_reducible rfl
                  try simp only [Act.put, List.setIfInBounds_toArray, List.set_cons_zero, List.set_cons_succ]
                  refine wpAnyH_take (i := 2) (oi := ⟨some 63, _, _, _, _, _⟩) (v := ?_) rfl (by kernel_rfl) (by kernel_rfl) (by kernel_rfl) (fun _ _ _ h => h) (Or.inl ⟨by rfl, ?_⟩) (by assumption) ?_
                  rotate_left 1
                  · intro w hSw
                    go_split_ands
                    go_simp
                    try with_reducible rfl
                  try simp only [Act.put, List.setIfInBounds_toArray, List.set_cons_zero, List.set_cons_succ]
                  refine wpAnyH_take (i := 3) (oi := ⟨some 64, _, _, _, _, _⟩) (v := ?_) rfl (by kernel_rfl) (by kernel_rfl) (by kernel_rfl) (fun _ _ _ h => h) (Or.inl ⟨by rfl, ?_⟩) (by assumption) ?_
                  rotate_left 1
                  · intro w hSw
                    go_split_ands
                    go_simp
                    try with_reducible rfl
                  try simp only [Act.put, List.setIfInBounds_toArray, List.set_cons_zero, List.set_cons_succ]
                  refine wpAnyH_take (i := 4) (oi := ⟨some 65, _, _, _, _, _⟩) (v := ?_) rfl (by kernel_rfl) (by kernel_rfl) (by kernel_rfl) (fun _ _ _ h => h) (Or.inl ⟨by rfl, ?_⟩) (by assumption) ?_
                  rotate_left 1
                  · intro w hSw
                    go_split_ands
                    go_simp
                    try with_reducible rfl
                  try simp only [Act.put, List.setIfInBounds_toArray, List.set_cons_zero, List.set_cons_succ]
                  refine wpAnyH_take (i := 5) (oi := ⟨some 66, _, _, _, _, _⟩) (v := ?_) rfl (by kernel_rfl) (by kernel_rfl) (by kernel_rfl) (fun _ _ _ h => h) (Or.inl ⟨by rfl, ?_⟩) (by assumption) ?_
                  rotate_left 1
                  · intro w hSw
                    go_split_ands
                    go_simp
                    try with_reducible rfl
                  try simp only [Act.put, List.setIfInBounds_toArray, List.set_cons_zero, List.set_cons_succ]
                  refine wpAnyH_take (i := 6) (oi := ⟨some 67, _, _, _, _, _⟩) (v := ?_) rfl (by kernel_rfl) (by kernel_rfl) (by kernel_rfl) (fun _ _ _ h => h) (Or.inl ⟨by rfl, ?_⟩) (by assumption) ?_
                  rotate_left 1
                  · intro w hSw
                    go_split_ands
                    go_simp
                    try with_reducible rfl
                  try simp only [Act.put, List.setIfInBounds_toArray, List.set_cons_zero, List.set_cons_succ]
                  refine wpAnyH_take (i := 7) (oi := ⟨some 68, _, _, _, _, _⟩) (v := ?_) rfl (by kernel_rfl) (by kernel_rfl) (by kernel_rfl) (fun _ _ _ h => h) (Or.inl ⟨by rfl, ?_⟩) (by assumption) ?_
                  rotate_left 1
                  · intro w hSw
                    go_split_ands
                    go_simp
                    try with_reducible rfl
                  try simp only [Act.put, List.setIfInBounds_toArray, List.set_cons_zero, List.set_cons_succ]
                  refine wpAnyH_ready (rs := [8]) (by kernel_rfl) (by simp) ?_
                  refine AllReadyH.cons (o := ⟨some 69, _, _, _, _, _⟩) rfl (fun K hK => ?_) AllReadyH.nil
                  go_simp
                  go_at_call 66
                  refine (HWa.out _).mono ?_
                  rintro e2 w2 ⟨rfl, hw2⟩
                  subst w2
                  dsimp only
                  refine hK.out _ _ hHeld (fun _ => ?_)
                  clear hK K
                  try simp only [Act.put, List.setIfInBounds_toArray, List.set_cons_zero, List.set_cons_succ]
                  refine wpAnyH_take (i := 9) (oi := ⟨some 70, _, _, _, _, _⟩) (v := ?_) rfl (by kernel_rfl) (by kernel_rfl) (by kernel_rfl) (fun _ _ _ h => h) (Or.inl ⟨by rfl, ?_⟩) (by assumption) ?_
                  rotate_left 1
                  · intro w hSw
                    go_split_ands
                    go_simp
                    try with_reducible rfl
                  try simp only [Act.put, List.setIfInBounds_toArray, List.set_cons_zero, List.set_cons_succ]
                  refine wpAnyH_take (i := 10) (oi := ⟨some 71, _, _, _, _, _⟩) (v := ?_) rfl (by kernel_rfl) (by kernel_rfl) (by kernel_rfl) (fun _ _ _ h => h) (Or.inl ⟨by rfl, ?_⟩) (by assumption) ?_
                  rotate_left 1
                  · intro w hSw
                    go_split_ands
                    go_simp
                    try with_reducible rfl
                  try simp only [Act.put, List.setIfInBounds_toArray, List.set_cons_zero, List.set_cons_succ]
                  refine wpAnyH_take (i := 11) (oi := ⟨some 72, _, _, _, _, _⟩) (v := ?_) rfl (by kernel_rfl) (by kernel_rfl) (by kernel_rfl) (fun _ _ _ h => h) (Or.inl ⟨by rfl, ?_⟩) (by assumption) ?_
                  rotate_left 1
                  · intro w hSw
                    go_split_ands
                    go_simp
                    try with_reducible rfl
                  try simp only [Act.put, List.setIfInBounds_toArray, List.set_cons_zero, List.set_cons_succ]
                  refine wpAnyH_take (i := 12) (oi := ⟨some 73, _, _, _, _, _⟩) (v := ?_) rfl (by kernel_rfl) (by kernel_rfl) (by kernel_rfl) (fun _ _ _ h => h) (Or.inl ⟨by rfl, ?_⟩) (by assumption) ?_
                  rotate_left 1
                  · intro w hSw
                    go_split_ands
                    go_simp
                    try with_reducible rfl
                  try simp only [Act.put, List.setIfInBounds_toArray, List.set_cons_zero, List.set_cons_succ]
                  refine wpAnyH_take (i := 13) (oi := ⟨some 74, _, _, _, _, _⟩) (v := ?_) rfl (by kernel_rfl) (by kernel_rfl) (by kernel_rfl) (fun _ _ _ h => h) (Or.inl ⟨by rfl, ?_⟩) (by assumption) ?_
                  rotate_left 1
                  · intro w hSw
                    go_split_ands
                    go_simp
                    try with_reducible rfl
                  try simp only [Act.put, List.setIfInBounds_toArray, List.set_cons_zero, List.set_cons_succ]
                  refine wpAnyH_take (i := 14) (oi := ⟨some 75, _, _, _, _, _⟩) (v := ?_) rfl (by kernel_rfl) (by kernel_rfl) (by kernel_rfl) (fun _ _ _ h => h) (Or.inl ⟨by rfl, ?_⟩) (by assumption) ?_
                  rotate_left 1
                  · intro w hSw
                    go_split_ands
                    go_simp
                    try with_reducible rfl
                  try simp only [Act.put, List.setIfInBounds_toArray, List.set_cons_zero, List.set_cons_succ]
                  refine wpAnyH_take (i := 15) (oi := ⟨some 76, _, _, _, _, _⟩) (v := ?_) rfl (by kernel_rfl) (by kernel_rfl) (by kernel_rfl) (fun _ _ _ h => h) (Or.inl ⟨by rfl, ?_⟩) (by assumption) ?_
                  rotate_left 1
                  · intro w hSw
                    go_split_ands
                    go_simp
                    try with_reducible rfl
                  try simp only [Act.put, List.setIfInBounds_toArray, List.set_cons_zero, List.set_cons_succ]
                  refine wpAnyH_take (i := 16) (oi := ⟨some 77, _, _, _, _, _⟩) (v := ?_) rfl (by kernel_rfl) (by kernel_rfl) (by kernel_rfl) (fun _ _ _ h => h) (Or.inl ⟨by rfl, ?_⟩) (by assumption) ?_
                  rotate_left 1
                  · intro w hSw
                    go_split_ands
                    go_simp
                    try with_reducible rfl
                  try simp only [Act.put, List.setIfInBounds_toArray, List.set_cons_zero, List.set_cons_succ]
                  refine wpAnyH_take (i := 18) (oi := ⟨some 79, _, _, _, _, _⟩) (v := ?_) rfl (by kernel_rfl) (by kernel_rfl) (by kernel_rfl) (fun _ _ _ h => h) (Or.inl ⟨by rfl, ?_⟩) (by assumption) ?_
                  rotate_left 1
                  · intro w hSw
                    go_split_ands
                    go_simp
                    try with_reducible rfl
                  try simp only [Act.put, List.setIfInBounds_toArray, List.set_cons_zero, List.set_cons_succ]
                  refine wpAnyH_take (i := 19) (oi := ⟨some 80, _, _, _, _, _⟩) (v := ?_) rfl (by kernel_rfl) (by kernel_rfl) (by kernel_rfl) (fun _ _ _ h => h) (Or.inl ⟨by rfl, ?_⟩) (by assumption) ?_
                  rotate_left 1
                  · intro w hSw
                    go_split_ands
                    go_simp
                    try with_reducible rfl
                  try simp only [Act.put, List.setIfInBounds_toArray, List.set_cons_zero, List.set_cons_succ]
                  refine wpAnyH_take (i := 20) (oi := ⟨some 81, _, _, _, _, _⟩) (v := ?_) rfl (by kernel_rfl) (by kernel_rfl) (by kernel_rfl) (fun _ _ _ h => h) (Or.inl ⟨by rfl, ?_⟩) (by assumption) ?_
                  rotate_left 1
                  · intro w hSw
                    go_split_ands
                    go_simp
                    try with_reducible rfl
                  try simp only [Act.put, List.setIfInBounds_toArray, List.set_cons_zero, List.set_cons_succ]
                  refine wpAnyH_take (i := 21) (oi := ⟨some 82, _, _, _, _, _⟩) (v := ?_) rfl (by kernel_rfl) (by kernel_rfl) (by kernel_rfl) (fun _ _ _ h => h) (Or.inl ⟨by rfl, ?_⟩) (by assumption) ?_
                  rotate_left 1
                  · intro w hSw
                    go_split_ands
                    go_simp
                    try with_reducible rfl
                  try simp only [Act.put, List.setIfInBounds_toArray, List.set_cons_zero, List.set_cons_succ]
                  refine wpAnyH_take (i := 22) (oi := ⟨some 83, _, _, _, _, _⟩) (v := ?_) rfl (by kernel_rfl) (by kernel_rfl) (by kernel_rfl) (fun _ _ _ h => h) (Or.inl ⟨by rfl, ?_⟩) (by assumption) ?_
                  rotate_left 1
                  · intro w hSw
                    go_split_ands
                    go_simp
                    try with_reducible rfl
                  try simp only [Act.put, List.setIfInBounds_toArray, List.set_cons_zero, List.set_cons_succ]
                  refine wpAnyH_take (i := 23) (oi := ⟨some 84, _, _, _, _, _⟩) (v := ?_) rfl (by kernel_rfl) (by kernel_rfl) (by kernel_rfl) (fun _ _ _ h => h) (Or.inl ⟨by rfl, ?_⟩) (by assumption) ?_
                  rotate_left 1
                  · intro w hSw
                    go_split_ands
                    go_simp
                    try with_reducible rfl
                  try simp only [Act.put, List.setIfInBounds_toArray, List.set_cons_zero, List.set_cons_succ]
                  refine wpAnyH_ready (rs := [17]) (by kernel_rfl) (by simp) ?_
                  refine AllReadyH.cons (o := ⟨some 78, _, _, _, _, _⟩) rfl (fun K hK => ?_) AllReadyH.nil
                  go_simp
                  go_at_call 20
                  refine (HRa.out _).mono ?_
                  rintro e' w' ⟨t', rfl, ht', hbk⟩
                  dsimp only
                  refine hK.out _ _ ⟨cell_aft hbk (Nat.lt_of_lt_of_le hptr hHeld.2.2.2.size) hHeld.1, (hbk.cell (p := ae.add (i * 2)) (Nat.lt_of_lt_of_le haer hHeld.2.2.2.size)).trans hHeld.2.1, cell_aft hbk (Nat.lt_of_lt_of_le haer hHeld.2.2.2.size) hHeld.2.2.1, hHeld.2.2.2.trans (hbk.mono hHeld.2.2.2.size)⟩ (fun hHeld2 => ?_)
                  clear hK K
                  try simp only [Act.put, List.setIfInBounds_toArray, List.set_cons_zero, List.set_cons_succ]
                  refine wpAnyH_take (i := 24) (oi := ⟨some 85, _, _, _, _, _⟩) (v := ?_) rfl (by kernel_rfl) (by kernel_rfl) (by kernel_rfl) (fun _ _ _ h => h) (Or.inl ⟨by rfl, ?_⟩) (by assumption) ?_
                  rotate_left 1
                  · intro w hSw
                    go_split_ands
                    go_simp
                    try with_reducible rfl
                  try simp only [Act.put, List.setIfInBounds_toArray, List.set_cons_zero, List.set_cons_succ]
                  refine wpAnyH_take (i := 25) (oi := ⟨some 86, _, _, _, _, _⟩) (v := ?_) rfl (by kernel_rfl) (by kernel_rfl) (by kernel_rfl) (fun _ _ _ h => h) (Or.inl ⟨by rfl, ?_⟩) (by assumption) ?_
                  rotate_left 1
                  · intro w hSw
                    go_split_ands
                    go_simp
                    try with_reducible rfl
                  try simp only [Act.put, List.setIfInBounds_toArray, List.set_cons_zero, List.set_cons_succ]
                  refine wpAnyH_take (i := 26) (oi := ⟨some 3, _, _, _, _, _⟩) (v := ?_) rfl (by kernel_rfl) (by kernel_rfl) (by kernel_rfl) (fun _ _ _ h => h) (Or.inl ⟨by rfl, ?_⟩) (by assumption) ?_
                  rotate_left 1
                  · intro w hSw
                    go_split_ands
                    go_simp
                    try with_reducible rfl
                  try simp only [Act.put, List.setIfInBounds_toArray, List.set_cons_zero, List.set_cons_succ]
                  refine wpAnyH_done (by kernel_rfl) ?_ _
                  refine NoPanic.normal ?_
                  go_wp2_with fail
                  go_roundg (m - (i + 1))
                  case measure => omega
                  case rel => exact ⟨i + 1, _, rfl, by go_num, hi1, rfl, hid (by rw [Hall.out, ← Bool.and_assoc, ← hob.out, ByteArray.toList_eq, ByteArray.toList_eq, ht'.out, Hl2.out]; rfl), hid (hbr.out.trans ((Below.refl _ _).drew.trans (hbk.mono hbr.out.size)))⟩
            · obtain rfl : i = m := by omega
              have hfin : ob = (ok0 && ys.all pA) := by
                have := hob.out
                rwa [List.take_of_length_le (by rw [Hm.out]; exact Nat.le_refl _)] at this
              rw [← hfin] at Hr
              have hend := hid ((Below.mono HbW.out (Nat.le_refl _)).trans (hbr.out.mono (Nat.le_of_lt hpt1)))
              clear hfin
              cases ob with
              | true =>
                go_wp2_with fail
                go_ret
                rw [Hr.out]
                exact ⟨rfl, by rw [Hpt.out]; exact hend.out⟩
              | false =>
                go_wp2_with fail
                go_ret
                rw [Hr.out]
                exact ⟨rfl, by rw [Hpt.out]; exact hend.out⟩

      · have e3 : decide (k < 3) = false := decide_eq_false hk3
        by_cases hk : k = 3
        · subst hk
          have Hr : Hid (res = if (okC n ys c && (!x.isEmpty && repairL x == x)) then 0 else 9) := hid (by rw [← Hres.out, chkI_3])
          go_enter Try.func46, Try.ntmps46
          go_upto_region 10 with fail
          obtain ⟨W, hW⟩ : ∃ W, w.alloc (.cells #[.int .i64 3, .string sn, .string sx, .slice A m ca, .bool c] 36) = W := ⟨_, rfl⟩
          rw [hW] at HT HbW ⊢
          obtain ⟨pt, hpt⟩ : ∃ pt, w.heap.size = pt := ⟨_, rfl⟩
          rw [hpt] at HT HbW Hra ⊢
          have Hpt := hid hpt
          clear hW hpt
          have T0 : W.cell? ⟨pt, 0, none⟩ = some (.int .i64 3) := (HT.out.cell 0).trans rfl
          have T1 : W.cell? ⟨pt, 1, none⟩ = some (.string sn) := (HT.out.cell 1).trans rfl
          have T2 : W.cell? ⟨pt, 2, none⟩ = some (.string sx) := (HT.out.cell 2).trans rfl
          have T3 : W.cell? ⟨pt, 3, none⟩ = some (.slice A m ca) := (HT.out.cell 3).trans rfl
          have T4 : W.cell? ⟨pt, 4, none⟩ = some (.bool c) := (HT.out.cell 4).trans rfl
          go_cut [3] from 87 to 100 (fun v3 wx => v3 = .bool (okC n ys c) ∧ wx = W)
          case first =>
            obtain ⟨b1, hb1⟩ : ∃ b, n.isEmpty = b := ⟨_, rfl⟩
            rw [hb1] at hne
            have Hb1 := hid hb1
            clear hb1
            cases b1 with
            | false =>
              go_wp2_with fail
              go_meet
              case rel => exact ⟨congrArg Value.bool (by unfold okC; rw [Hb1.out]; rfl), rfl⟩
            | true =>
              obtain ⟨b2, hb2⟩ : ∃ b, ys.isEmpty = b := ⟨_, rfl⟩
              rw [hb2] at hme hme2
              have Hb2 := hid hb2
              clear hb2
              cases b2 with
              | false =>
                go_wp2_with fail
                go_meet
                case rel => exact ⟨congrArg Value.bool (by unfold okC; rw [Hb1.out, Hb2.out]; rfl), rfl⟩
              | true =>
                go_wp2_with fail
                go_meet
                case rel => exact ⟨congrArg Value.bool (by unfold okC; rw [Hb1.out, Hb2.out]; rfl), rfl⟩
          case rest =>
            obtain ⟨rfl, hwc⟩ := hcut
            subst hwc
            obtain ⟨ok0, hok0⟩ : ∃ b, okC n ys c = b := ⟨_, rfl⟩
            rw [hok0] at Hr ⊢
            have Hok0 := hid hok0
            clear hok0
            cases ok0 with
            | false =>
              go_wp2_with fail
              go_ret
              rw [show res = 9 from by rw [Hr.out]; rfl]
              exact ⟨rfl, by rw [Hpt.out]; exact HbW.out⟩
            | true =>
              obtain ⟨b4, hb4⟩ : ∃ b, x.isEmpty = b := ⟨_, rfl⟩
              rw [hb4] at hxe Hr
              clear hb4
              cases b4 with
              | true =>
                go_wp2_with fail
                go_ret
                rw [show res = 9 from by rw [Hr.out]; rfl]
                exact ⟨rfl, by rw [Hpt.out]; exact HbW.out⟩
              | false =>
                obtain ⟨fb, hfb⟩ : ∃ b, (repairL x == x) = b := ⟨_, rfl⟩
                have Hfb := hid hfb
                rw [hfb] at Hr
                clear hfb
                go_wp2_with fail
                refine (HR.out _).mono ?_
                rintro e' w' ⟨t', rfl, ht', hbk⟩
                have hq : (t'.toList == sx.toList) = fb := by rw [ByteArray.toList_eq, ByteArray.toList_eq, ht'.out, Hlx.out]; exact Hfb.out
                have Hbk := hid (HbW.out.trans (hbk.mono (Nat.le_of_lt HT.out.lt)))
                clear hbk
                cases fb with
                | false =>
                  go_wp2_with fail
                  go_ret
                  rw [show res = 9 from by rw [Hr.out]; rfl]
                  exact ⟨rfl, by rw [Hpt.out]; exact Hbk.out⟩
                | true =>
                  go_wp2_with fail
                  go_ret
                  rw [show res = 0 from by rw [Hr.out]; rfl]
                  exact ⟨rfl, by rw [Hpt.out]; exact Hbk.out⟩
        · obtain rfl : k = 4 := by omega
          have Hr : Hid (res = if (okC n ys c && okX x) then 0 else 9) := hid (by rw [← Hres.out, chkI_4])
          go_enter Try.func46, Try.ntmps46
          go_upto_region 10 with fail
          obtain ⟨W, hW⟩ : ∃ W, w.alloc (.cells #[.int .i64 4, .string sn, .string sx, .slice A m ca, .bool c] 36) = W := ⟨_, rfl⟩
          rw [hW] at HT HbW ⊢
          obtain ⟨pt, hpt⟩ : ∃ pt, w.heap.size = pt := ⟨_, rfl⟩
          rw [hpt] at HT HbW Hra ⊢
          have Hpt := hid hpt
          clear hW hpt
          have T0 : W.cell? ⟨pt, 0, none⟩ = some (.int .i64 4) := (HT.out.cell 0).trans rfl
          have T1 : W.cell? ⟨pt, 1, none⟩ = some (.string sn) := (HT.out.cell 1).trans rfl
          have T2 : W.cell? ⟨pt, 2, none⟩ = some (.string sx) := (HT.out.cell 2).trans rfl
          have T3 : W.cell? ⟨pt, 3, none⟩ = some (.slice A m ca) := (HT.out.cell 3).trans rfl
          have T4 : W.cell? ⟨pt, 4, none⟩ = some (.bool c) := (HT.out.cell 4).trans rfl
          go_cut [3] from 87 to 100 (fun v3 wx => v3 = .bool (okC n ys c) ∧ wx = W)
          case first =>
            obtain ⟨b1, hb1⟩ : ∃ b, n.isEmpty = b := ⟨_, rfl⟩
            rw [hb1] at hne
            have Hb1 := hid hb1
            clear hb1
            cases b1 with
            | false =>
              go_wp2_with fail
              go_meet
              case rel => exact ⟨congrArg Value.bool (by unfold okC; rw [Hb1.out]; rfl), rfl⟩
            | true =>
              obtain ⟨b2, hb2⟩ : ∃ b, ys.isEmpty = b := ⟨_, rfl⟩
              rw [hb2] at hme hme2
              have Hb2 := hid hb2
              clear hb2
              cases b2 with
              | false =>
                go_wp2_with fail
                go_meet
                case rel => exact ⟨congrArg Value.bool (by unfold okC; rw [Hb1.out, Hb2.out]; rfl), rfl⟩
              | true =>
                go_wp2_with fail
                go_meet
                case rel => exact ⟨congrArg Value.bool (by unfold okC; rw [Hb1.out, Hb2.out]; rfl), rfl⟩
          case rest =>
            obtain ⟨rfl, hwc⟩ := hcut
            subst hwc
            obtain ⟨ok0, hok0⟩ : ∃ b, okC n ys c = b := ⟨_, rfl⟩
            rw [hok0] at Hr ⊢
            have Hok0 := hid hok0
            clear hok0
            cases ok0 with
            | false =>
              obtain ⟨b4, hb4⟩ : ∃ b, x.isEmpty = b := ⟨_, rfl⟩
              rw [hb4] at hxe
              clear hb4
              cases b4 with
              | false =>
                go_wp2_with fail
                go_ret
                rw [show res = 9 from by rw [Hr.out]; rfl]
                exact ⟨rfl, by rw [Hpt.out]; exact HbW.out⟩
              | true =>
                go_wp2_with fail
                go_ret
                rw [show res = 9 from by rw [Hr.out]; rfl]
                exact ⟨rfl, by rw [Hpt.out]; exact HbW.out⟩
            | true =>
              obtain ⟨b4, hb4⟩ : ∃ b, x.isEmpty = b := ⟨_, rfl⟩
              rw [hb4] at hxe
              have Hb4 := hid hb4
              clear hb4
              cases b4 with
              | true =>
                go_wp2_with fail
                go_ret
                rw [show res = 0 from by rw [Hr.out]; unfold okX; rw [Hb4.out]; rfl]
                exact ⟨rfl, by rw [Hpt.out]; exact HbW.out⟩
              | false =>
                have hxn : x ≠ [] := fun e => by have := Hb4.out; rw [e] at this; cases this
                have hpos : 0 < sx.size := by rw [Hzx.out]; exact List.length_pos_iff.2 hxn
                have hpi : (0 : Int) < (sx.size : Int) := by omega
                obtain ⟨d, hd', d0, d1, hdn⟩ := byteOf sx 0 hpos
                have Hhead : Hid (x.head? = some (bOf d)) := hid (by
                  rw [← Hlx.out, List.head?_eq_getElem?, List.getElem?_eq_getElem (by rw [len_data]; exact hpos), data_get sx 0 hpos, ← hdn])
                obtain ⟨q, hq⟩ : ∃ q, sx.size - 1 = q := ⟨_, rfl⟩
                have hwq : IntKind.i64.wrap ((sx.size : Int) - 1) = (q : Int) := by
                  rw [show (sx.size : Int) - 1 = (q : Int) from by omega]
                  exact IntWalk.i64_in _ (by have := Hzx.out; omega)
                have hq2 : q < sx.size := by omega
                have hq3 : (q : Int) < (sx.size : Int) := by omega
                have hq0 : (0 : Int) ≤ (q : Int) := by omega
                obtain ⟨f, hf', f0, f1, hfn⟩ := byteOf sx q hq2
                have Hlast : Hid (x.getLast? = some (bOf f)) := hid (by
                  rw [← Hlx.out, List.getLast?_eq_getElem?, len_data, hq, List.getElem?_eq_getElem (by rw [len_data]; exact hq2), data_get sx q hq2, ← hfn])
                obtain ⟨ix, hix⟩ : ∃ z, Lib.index x [45, 45, 62] = z := ⟨_, rfl⟩
                rw [hix] at HF
                have Hix := hid hix
                have Hx : Hid (okX x = (decide (ix < 0) && (some (bOf d) != some 45 && (some (bOf d) != some 62 && some (bOf f) != some 45)))) := hid (by unfold okX; rw [Hb4.out, Hhead.out, Hlast.out, Hix.out]; rfl)
                clear hdn hfn hix hxn hq
                by_cases hi : ix < 0
                · have hib : decide (ix < 0) = true := decide_eq_true hi
                  by_cases hd1 : d = 45
                  · subst hd1
                    go_wp2_with fail
                    refine (HF.out _).mono ?_
                    rintro e2 w2 ⟨rfl, hw2⟩
                    subst hw2
                    go_wp2_with fail
                    go_ret
                    rw [show res = 9 from by rw [Hr.out, Hx.out]; rw [hib]; rfl]
                    exact ⟨rfl, by rw [Hpt.out]; exact HbW.out⟩
                  · have hd1b : (d == 45) = false := beq_eq_false_iff_ne.2 hd1
                    have hd1c : (d != 45) = true := by rw [bne, hd1b]; rfl
                    have hd1e : (some (bOf d) != some 45) = true := by
                      have := bOf_no d d0 d1 45 45 rfl hd1
                      simpa using this
                    by_cases hd2 : d = 62
                    · subst hd2
                      go_wp2_with fail
                      refine (HF.out _).mono ?_
                      rintro e2 w2 ⟨rfl, hw2⟩
                      subst hw2
                      go_wp2_with fail
                      go_ret
                      rw [show res = 9 from by rw [Hr.out, Hx.out]; rw [hib]; rfl]
                      exact ⟨rfl, by rw [Hpt.out]; exact HbW.out⟩
                    · have hd2b : (d == 62) = false := beq_eq_false_iff_ne.2 hd2
                      have hd2c : (d != 62) = true := by rw [bne, hd2b]; rfl
                      have hd2e : (some (bOf d) != some 62) = true := by
                        have := bOf_no d d0 d1 62 62 rfl hd2
                        simpa using this
                      by_cases hf1 : f = 45
                      · subst hf1
                        go_wp2_with fail
                        refine (HF.out _).mono ?_
                        rintro e2 w2 ⟨rfl, hw2⟩
                        subst hw2
                        go_wp2_with fail
                        go_ret
                        rw [show res = 9 from by rw [Hr.out, Hx.out]; rw [hib, hd1e, hd2e]; rfl]
                        exact ⟨rfl, by rw [Hpt.out]; exact HbW.out⟩
                      · have hf1b : (f == 45) = false := beq_eq_false_iff_ne.2 hf1
                        have hf1c : (f != 45) = true := by rw [bne, hf1b]; rfl
                        have hf1e : (some (bOf f) != some 45) = true := by
                          have := bOf_no f f0 f1 45 45 rfl hf1
                          simpa using this
                        go_wp2_with fail
                        refine (HF.out _).mono ?_
                        rintro e2 w2 ⟨rfl, hw2⟩
                        subst hw2
                        go_wp2_with fail
                        go_ret
                        rw [show res = 0 from by rw [Hr.out, Hx.out]; rw [hib, hd1e, hd2e, hf1e]; rfl]
                        exact ⟨rfl, by rw [Hpt.out]; exact HbW.out⟩
                · have hib : decide (ix < 0) = false := decide_eq_false hi
                  go_wp2_with fail
                  refine (HF.out _).mono ?_
                  rintro e2 w2 ⟨rfl, hw2⟩
                  subst hw2
                  go_wp2_with fail
                  go_ret
                  rw [show res = 9 from by rw [Hr.out, Hx.out]; rw [hib]; rfl]
                  exact ⟨rfl, by rw [Hpt.out]; exact HbW.out⟩
end Go.Proofs.Ytihgmgpcdodknaa
