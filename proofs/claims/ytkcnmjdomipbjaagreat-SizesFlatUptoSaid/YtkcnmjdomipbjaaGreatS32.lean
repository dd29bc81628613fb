import Derived.Deep.QuietTactic
import Derived.Test.YtkcnmjdomipbjaaGreatS31
set_option linter.unusedVariables false
set_option maxHeartbeats 100000000
set_option maxRecDepth 100000
namespace Go.Proofs.YtkcnmjdomipbjaaGreat
open Go.RowKit
def Tn.may : Tn -> Prop
 | .mk k x nm p b e a s u => 1 <= k /\ k <= 7 /\ ((k < 3 ∨ 5 < k) -> b = [] /\ e = [])
def PMay (l : List Tn) (w : World) (e : Ending) (w' : World) : Prop := ∃ b : Bool, e = .returned (.bool b) /\ (b = true -> ∀ t ∈ l, t.may) /\ Below w.heap.size w w'
theorem may22_any : ∀ (N : Nat) (l : List Tn) (n : Nat) (hn : l.length = n) (hN : tnsNum l <= N) (hz : N <= 1048576) (hok : tnsOk l) (A : Option Addr) (c : Nat) (w : World) (hr : RowsV w (fun _ => True) 9 A 0 (tnRows l)), Calls Tryz.prog 46 #[.slice A n c] w (PMay l w) := by
 intro N
 induction N with
 | zero =>
  intro l n hn hN hz hok A c w hr;obtain rfl : l = [] := List.eq_nil_of_length_eq_zero (by have := tnsNum_len l; omega);obtain rfl : n = 0 := hn.symm;go_enter Tryz.func46, Tryz.ntmps46;go_wp2_with fail
  go_loopw [3] (fun i wr => i = .int .i64 0 /\ wr = w) (fun _ _ => 0)
  case atStart => exact ⟨rfl, rfl⟩
  obtain ⟨rfl, hwr⟩ := hrel;obtain rfl := hwr;go_wp2_with fail
  go_ret;exact ⟨true, rfl, (fun _ t h => by cases h), Below.refl _ _⟩
 | succ N ih =>
  intro l n hn hN hz hok A c w hr;have HIH := hid ih;have Hr := hid hr;have Hn := hid hn;have Hok := hid hok;have hnz : n <= 1048576 := by have := tnsNum_len l; omega
  have hNum := hN;clear ih hr hn hok;go_enter Tryz.func46, Tryz.ntmps46;go_wp2_with fail
  go_loopw [3] (fun i wr => ∃ j : Nat, j <= n /\ i = .int .i64 (j : Int) /\ (∀ t ∈ l.take j, t.may) /\ Below w.heap.size w wr) (fun i _ => n - (intOf i).toNat)
  case atStart => exact ⟨0, Nat.zero_le _, rfl, (fun t h => by simp at h), Below.refl _ _⟩
  obtain ⟨j, hj, rfl, hmay, hb⟩ := hrel;have Hmay := hid hmay;have Hb := hid hb;clear hmay hb;obtain ⟨W0, rfl⟩ := xS wr;by_cases hlt : j < n
  ·have hli : (j : Int) < (n : Int) := by omega
   have hj0 : (0 : Int) <= (j : Int) := by omega
   have hjl : j < l.length := by have := Hn.out; omega
   obtain ⟨ad, rfl, hadl, hrow⟩ := rowTn (RowsV.below Hr.out Hb.out) hjl;have hsn : l.take (j + 1) = l.take j ++ [l[j]] := (List.take_append_getElem hjl).symm;obtain ⟨t, ht⟩ := xE l[j];have htn := tnsNum_mem (List.getElem_mem hjl);have hto := tnsOk_iff.1 Hok.out _ (List.getElem_mem hjl);rw [ht] at hrow hsn htn hto;obtain ⟨kk, xx, nm, pp, bb, ee, aa, ss, uu⟩ := t;obtain ⟨np, hnp⟩ := xE pp.length;obtain ⟨nb, hnb⟩ := xE bb.length;obtain ⟨ne, hne⟩ := xE ee.length;obtain ⟨Ap, cp, Ab, cb, Ae, ce, t0, t1, t2, t3, t4, t5, t6, t7, t8, rp, rb, re⟩ := Tn.at_ hrow hnp hnb hne;rw [Tn.num] at htn;have hbl := tnsNum_len bb;have hel := tnsNum_len ee;have hnbz : nb <= 1048576 := by omega
   have hnez : ne <= 1048576 := by omega
   have hnpz : np <= 16 := by rw [<- hnp]; exact hto.2.2.1
   have HB := hid (fun W (h : RowsV W (fun _ => True) 9 Ab 0 (tnRows bb)) => HIH.out bb nb hnb (by omega) (by omega) hto.2.2.2.1 Ab cb W h);have HE := hid (fun W (h : RowsV W (fun _ => True) 9 Ae 0 (tnRows ee)) => HIH.out ee ne hne (by omega) (by omega) hto.2.2.2.2 Ae ce W h);have HM := hid (fun W (h : RowsV W (fun _ => True) 2 Ap 0 (pp.map Ca.row)) => may19_any pp np hnp Ap cp W hto.2.1 h (by omega));have Rp := hid rp;have Rb := hid rb;have Re := hid re;have Hs := hid hsn;have Hnb := hid hnb;have Hne := hid hne;clear hrow rp rb re hnp hnb hne htn ht hsn hto hbl hel;go_upto_region 5 with fail
   obtain ⟨w1, hw1⟩ := xE (W0.alloc (.cells #[.int .i64 kk, .string xx, .string nm, .slice Ap np cp, .slice Ab nb cb, .slice Ae ne ce, .int .i64 aa, .int .i64 ss, .int .i64 uu] 52));have hal : Below W0.heap.size W0 w1 := by rw [<- hw1]; exact alloc_below _ _
   have HX : Hid (Blk w1 W0.heap.size 52 #[.int .i64 kk, .string xx, .string nm, .slice Ap np cp, .slice Ab nb cb, .slice Ae ne ce, .int .i64 aa, .int .i64 ss, .int .i64 uu]) := hid (by rw [<- hw1]; exact Blk.new _ _ _);have Hb1 := hid (Hb.out.trans (hal.mono Hb.out.size));have Rp1 := hid (RowsV.below Rp.out hal);have Rb1 := hid (RowsV.below Rb.out hal);have Re1 := hid (RowsV.below Re.out hal);rw [hw1];obtain ⟨gn, hgn⟩ := xE W0.heap.size;rw [hgn] at HX ⊢;clear hw1 hal hgn t0 t1 t2 t3 t4 t5 t6 t7 t8 Rp Rb Re hadl;obtain ⟨⟨d0, -, -, -, -, -, -, d7, d8⟩, -⟩ := blk9_cells HX.out;go_cut [33] from 6 to 109 (fun cc wx => ∃ b : Bool, cc = .bool b /\ (b = false -> 1 <= kk /\ kk <= 7) /\ wx = w1)
   case first => as_aux_lemma =>
    by_cases h1 : kk < 1
    ·go_wp2_with fail
     all_goals (go_meet; exact ⟨_, rfl, (fun h => by first | omega | simp at h), rfl⟩)
    by_cases h7 : 7 < kk
    ·go_wp2_with fail
     all_goals (go_meet; exact ⟨_, rfl, (fun h => by first | omega | simp at h), rfl⟩)
    go_wp2_with fail
    all_goals (go_meet; exact ⟨_, rfl, (fun h => ⟨by omega, by omega⟩), rfl⟩)
   obtain ⟨b, rfl, hk, hwc⟩ := hcut;obtain rfl := hwc;cases b
   ·obtain ⟨hk1, hk7⟩ := hk rfl;clear hk;have d3 := (blk9_cells HX.out).1.2.2.2.1;go_upto_region 7 with fail
    go_cut [5] from 6 to 109 (fun cc wx => ∃ b : Bool, cc = .bool b /\ wx = wc)
    case first => as_aux_lemma =>
     obtain ⟨q1, hq1⟩ := xE (kk == 1);obtain ⟨q6, hq6⟩ := xE (kk == 6);obtain ⟨q0, hq0⟩ := xE ((np : Int) == 0);cases q1 <;> cases q6
     all_goals (
      go_wp2_with fail
      all_goals (go_meet; exact ⟨_, rfl, rfl⟩))
    obtain ⟨b5, rfl, hwc⟩ := hcut;obtain rfl := hwc;have HM1 := hid (HM.out wc Rp1.out);go_upto_region 8 with fail
    go_cut [64] from 6 to 109 (fun cc wx => ∃ b : Bool, cc = .bool b /\ Below wc.heap.size wc wx)
    case first => as_aux_lemma =>
     by_cases hp0 : 0 < np
     ·have hp0i : (0 : Int) < (np : Int) := by omega
      cases b5
      all_goals (
       go_wp2_with (go_at_call 52; refine HM1.out.mono ?_; rintro e w3 ⟨bm, rfl, hb3⟩)
       all_goals (go_meet; first | exact ⟨_, rfl, hb3⟩ | exact ⟨_, rfl, Below.refl _ _⟩))
     have hp0i : ¬ (0 : Int) < (np : Int) := by omega
     cases b5
     all_goals (
      go_wp2_with (go_at_call 52; refine HM1.out.mono ?_; rintro e w3 ⟨bm, rfl, hb3⟩)
      all_goals (go_meet; first | exact ⟨_, rfl, hb3⟩ | exact ⟨_, rfl, Below.refl _ _⟩))
    obtain ⟨b, rfl, hb2⟩ := hcut;obtain ⟨w2, rfl⟩ := xS wc;have HX2 := hid (HX.out.below hb2 HX.out.lt);have Hb2 := hid (Hb1.out.trans (hb2.mono Hb1.out.size));have Rb2 := hid (RowsV.below Rb1.out hb2);have Re2 := hid (RowsV.below Re1.out hb2);clear hb2 HX Hb1 Rb1 Re1 Rp1 HM1 HM d0 d3 d7 d8;cases b
    ·obtain ⟨⟨d0, d1, d2, -, d4, d5, -, -, -⟩, -⟩ := blk9_cells HX2.out;go_upto_region 10 with fail
     go_cut [81] from 6 to 109 (fun cc wx => ∃ b : Bool, cc = .bool b /\ wx = w2)
     case first => as_aux_lemma =>
      obtain ⟨q1, hq1⟩ := xE (kk == 1);obtain ⟨qx, hqx⟩ := xE xx.toList.isEmpty;obtain ⟨qn, hqn⟩ := xE nm.toList.isEmpty;by_cases h6 : 6 <= kk
      all_goals (
       cases q1 <;> cases qx <;> cases qn
       all_goals (
        go_wp2_with fail
        all_goals (go_meet; exact ⟨_, rfl, rfl⟩)))
     obtain ⟨b, rfl, hwc⟩ := hcut;obtain rfl := hwc;clear d1 d2;cases b
     ·go_upto_region 12 with fail
      go_cut [99] from 6 to 109 (fun cc wx => ∃ b : Bool, cc = .bool b /\ (b = false -> (kk < 3 ∨ 5 < kk) -> nb + ne = 0) /\ wx = wc)
      case first => as_aux_lemma =>
       by_cases h0 : 0 < nb + ne
       ·have h0i : (0 : Int) < (nb : Int) + (ne : Int) := by omega
        by_cases h3 : kk < 3
        ·go_wp2_with fail
         all_goals (go_meet; exact ⟨_, rfl, (fun h => by simp at h), rfl⟩)
        by_cases h5 : 5 < kk
        ·go_wp2_with fail
         all_goals (go_meet; exact ⟨_, rfl, (fun h => by simp at h), rfl⟩)
        go_wp2_with fail
        all_goals (go_meet; exact ⟨_, rfl, (fun _ h => by omega), rfl⟩)
       have h0i : ¬ ((0 : Int) < (nb : Int) + (ne : Int)) := by omega
       by_cases h3 : kk < 3
       ·go_wp2_with fail
        all_goals (go_meet; exact ⟨_, rfl, (fun _ _ => by omega), rfl⟩)
       by_cases h5 : 5 < kk
       ·go_wp2_with fail
        all_goals (go_meet; exact ⟨_, rfl, (fun _ _ => by omega), rfl⟩)
       go_wp2_with fail
       all_goals (go_meet; exact ⟨_, rfl, (fun _ _ => by omega), rfl⟩)
      obtain ⟨b, rfl, hne0, hwc⟩ := hcut;obtain rfl := hwc;cases b
      ·have HMay : Hid (Tn.mk kk xx nm pp bb ee aa ss uu).may := hid ⟨hk1, hk7, fun h => by
        have h1 := Hnb.out;have h2 := Hne.out;have := hne0 rfl h;exact ⟨List.eq_nil_of_length_eq_zero (by omega), List.eq_nil_of_length_eq_zero (by omega)⟩⟩
       clear hne0 hk1 hk7 d0;have HB1 := hid (HB.out wc Rb2.out);have HE1 := hid (fun W (h : Below wc.heap.size wc W) => HE.out W (RowsV.below Re2.out h));go_upto_region 14 with fail
       go_cut [109] from 6 to 109 (fun cc wx => ∃ b : Bool, cc = .bool b /\ Below wc.heap.size wc wx)
       case first => as_aux_lemma =>
        go_wp2_with (first
         | (go_at_call_of 46 Ab; refine HB1.out.mono ?_; rintro e w3 ⟨bm, rfl, -, hb3⟩; have HX3 := hid (HX2.out.below hb3 HX2.out.lt); clear d4 d5; obtain ⟨⟨-, -, -, -, d4, d5, -, -, -⟩, -⟩ := blk9_cells HX3.out; cases bm)
         | (go_at_call_of 46 Ae; refine (HE1.out _ hb3).mono ?_; rintro e w4 ⟨bm, rfl, -, hb4⟩))
        all_goals (
         go_meet
         first
          | exact ⟨_, rfl, hb3.trans (hb4.mono hb3.size)⟩
          | exact ⟨_, rfl, hb3⟩)
       obtain ⟨b, rfl, hb4⟩ := hcut;obtain ⟨w4, rfl⟩ := xS wc;have Hb4 := hid (Hb2.out.trans (hb4.mono Hb2.out.size));clear hb4 d4 d5;cases b
       ·go_wp2_with fail
        go_roundw
        case rel => exact ⟨j + 1, by omega, by go_num, by
         rw [Hs.out];intro q hq;rcases List.mem_append.1 hq with h | h
         ·exact Hmay.out q h
         rw [List.mem_singleton.1 h]; exact HMay.out, Hb4.out⟩
        simp [intOf]; omega
       go_wp2_with fail
       go_ret;exact ⟨false, rfl, (fun h => by cases h), Hb4.out⟩
      go_wp2_with fail
      go_ret;exact ⟨false, rfl, (fun h => by cases h), Hb2.out⟩
     go_wp2_with fail
     go_ret;exact ⟨false, rfl, (fun h => by cases h), Hb2.out⟩
    go_wp2_with fail
    go_ret;exact ⟨false, rfl, (fun h => by cases h), Hb2.out⟩
   go_wp2_with fail
   go_ret;exact ⟨false, rfl, (fun h => by cases h), Hb1.out⟩
  obtain rfl : j = n := by omega
  go_wp2_with fail
  go_ret;exact ⟨true, rfl, fun _ => by have h := Hmay.out; rwa [List.take_of_length_le (by have := Hn.out; omega)] at h, Hb.out⟩
end Go.Proofs.YtkcnmjdomipbjaaGreat
