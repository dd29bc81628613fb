import Derived.Test.YtkcnmjdomipbjaaGreatS26
import Derived.Test.YtkcnmjdomipbjaaGreatS28
set_option linter.unusedVariables false
set_option maxHeartbeats 100000000
set_option maxRecDepth 100000
namespace Go.Proofs.YtkcnmjdomipbjaaGreat
open Go.RowKit
def PIW (w : World) (e : Ending) (w' : World) : Prop := ∃ n : Int, e = .returned (.int .i64 n) /\ Below w.heap.size w w'
theorem check04_any : ∀ (N : Nat) (k m : Int) (x : ByteArray) (l : List Vd) (ks : List ByteArray) (nl nk : Nat) (hnl : l.length = nl) (hnk : ks.length = nk) (hN : (Vd.mk k m x l ks).wt <= N) (hz : N <= 2097152) (deep : Int) (Al Ak : Option Addr) (cl ck : Nat) (w : World) (hl : RowsV w (fun _ => True) 5 Al 0 (vdRows l)) (hk : RowsV w (fun _ => True) 1 Ak 0 (strRows ks)), Calls Tryz.prog 17 #[.agg #[.int .i64 k, .int .i64 m, .string x, .slice Al nl cl, .slice Ak nk ck], .int .i64 deep] w (PIW w) := by
 intro N
 induction N with
 | zero =>
  intro k m x l ks nl nk hnl hnk hN;have := (Vd.mk k m x l ks).wt_pos;omega
 | succ N ih =>
  intro k m x l ks nl nk hnl hnk hN hz deep Al Ak cl ck w hl hk;rw [Vd.wt] at hN;have hlen := vdsWt_len l;have hlen2 := strWt_len ks;have hnlz : nl <= 2097152 := by omega
  have hnkz : nk <= 2097152 := by omega
  have HR := hid (fun W (h : RowsV W (fun _ => True) 1 Ak 0 (strRows ks)) => rising_any ks nk hnk (by omega) (fun x hx => by have := strWt_mem hx; omega) Ak ck W h);have HIH := hid ih;have Hl := hid hl;have Hk := hid hk;have Hnl := hid hnl;clear ih hl hk hnl hnk;obtain ⟨W, hW⟩ := xE (w.alloc (.cells #[.int .i64 k, .int .i64 m, .string x, .slice Al nl cl, .slice Ak nk ck] 25));have hbw : Below w.heap.size w W := by rw [<- hW]; exact alloc_below _ _
  have HX : Hid (Blk W w.heap.size 25 #[.int .i64 k, .int .i64 m, .string x, .slice Al nl cl, .slice Ak nk ck]) := hid (by rw [<- hW]; exact Blk.new _ _ _);have Hb := hid hbw;obtain ⟨pt, hpt⟩ := xE w.heap.size;rw [hpt] at HX;clear hbw;obtain ⟨⟨c0, c1, c2, c3, c4⟩, -⟩ := blk5_cells HX.out;go_enter Tryz.func17, Tryz.ntmps17;go_upto_region 1 with fail
  clear hW;go_cut [5] from 9 (fun cc wx => ∃ b : Bool, cc = .bool b /\ wx = W)
  case first => as_aux_lemma =>
   obtain ⟨q5, hq5⟩ := xE (k == 5);obtain ⟨q6, hq6⟩ := xE (k == 6);go_wp2_with fail
   all_goals (go_meet; exact ⟨_, rfl, rfl⟩)
  obtain ⟨b5, rfl, hwc⟩ := hcut;obtain rfl := hwc;obtain ⟨qd, hqd⟩ := xE (deep == 16);go_upto_region 2 with fail
  go_cut [21] from 9 (fun cc wx => ∃ b : Bool, cc = .bool b /\ wx = wc)
  case first => as_aux_lemma =>
   cases b5
   all_goals (
    go_wp2_with fail
    all_goals (go_meet; exact ⟨_, rfl, rfl⟩))
  obtain ⟨b, rfl, hwc⟩ := hcut;obtain rfl := hwc;clear hqd;cases b
  ·by_cases hx4 : (4096 : Int) < (x.size : Int)
   ·go_wp2_with fail
    go_ret;exact ⟨5, rfl, Hb.out⟩
   go_upto_region 6 with fail
   go_cut [35] from 9 (fun cc wx => ∃ b : Bool, cc = .bool b /\ wx = wc)
   case first => as_aux_lemma =>
    by_cases hl4 : (1024 : Int) < (nl : Int)
    all_goals (
     go_wp2_with fail
     all_goals (go_meet; exact ⟨_, rfl, rfl⟩))
   obtain ⟨b, rfl, hwc⟩ := hcut;obtain rfl := hwc;cases b
   ·go_upto_region 8 with fail
    go_cut [6] from 9 (fun cc wx => ∃ b : Bool, cc = .bool b /\ wx = wc)
    case first => as_aux_lemma =>
     obtain ⟨q4, hq4⟩ := xE (k == 4);go_wp2_with fail
     all_goals (go_meet; exact ⟨_, rfl, rfl⟩)
    obtain ⟨b6, rfl, hwc⟩ := hcut;obtain rfl := hwc;go_upto_region 9 with fail
    go_cut [91] from 9 (fun cc wx => ∃ b : Bool, cc = .bool b /\ wx = wc)
    case first => as_aux_lemma =>
     obtain ⟨q3, hq3⟩ := xE (k != 3);obtain ⟨q6, hq6⟩ := xE (k != 6);obtain ⟨qm, hqm⟩ := xE (m != 0);obtain ⟨qx, hqx⟩ := xE x.toList.isEmpty;obtain ⟨ql, hql⟩ := xE (decide (0 < nl));have hql' : decide ((0 : Int) < (nl : Int)) = ql := by rw [<- hql]; exact decide_eq_decide.2 (by omega)
     obtain ⟨qk, hqk⟩ := xE (decide (0 < nk));have hqk' : decide ((0 : Int) < (nk : Int)) = qk := by rw [<- hqk]; exact decide_eq_decide.2 (by omega)
     cases b5 <;> cases b6
     all_goals (
      go_wp2_with fail
      all_goals (go_meet; exact ⟨_, rfl, rfl⟩))
    obtain ⟨b, rfl, hwc⟩ := hcut;obtain rfl := hwc;cases b
    ·have HR1 := hid (HR.out wc (RowsV.below Hk.out Hb.out));obtain ⟨qn, hqn⟩ := xE ((nk : Int) != (nl : Int));obtain ⟨q6, hq6⟩ := xE (k == 6);go_upto_region 11 with fail
     go_cut [109] from 9 (fun cc wx => ∃ b : Bool, cc = .bool b /\ Below wc.heap.size wc wx)
     case first => as_aux_lemma =>
      cases q6 <;> cases qn
      all_goals (
       go_wp2_with (go_at_call 28; refine HR1.out.mono ?_; rintro e w3 ⟨bm, rfl, hb3⟩; cases bm)
       all_goals (go_meet; first | exact ⟨_, rfl, hb3⟩ | exact ⟨_, rfl, Below.refl _ _⟩))
     obtain ⟨b, rfl, hb2⟩ := hcut;obtain ⟨w2, rfl⟩ := xS wc;have HX2 := hid (HX.out.below hb2 HX.out.lt);have Hb2 := hid (Hb.out.trans (hb2.mono Hb.out.size));clear hb2 HX Hb c0 c1 c2 c3 c4 hqn hq6 HR1 HR;cases b
     ·have c3 := (blk5_cells HX2.out).1.2.2.2.1;go_wp2_with fail
      clear c3;go_loopw [7] (fun i wr => ∃ j : Nat, j <= nl /\ i = .int .i64 (j : Int) /\ Below w2.heap.size w2 wr) (fun i _ => nl - (intOf i).toNat)
      case atStart => exact ⟨0, Nat.zero_le _, rfl, Below.refl _ _⟩
      obtain ⟨j, hj, rfl, hb3⟩ := hrel;obtain ⟨W3, rfl⟩ := xS wr;have c3 := (blk5_cells (HX2.out.below hb3 HX2.out.lt)).1.2.2.2.1;have Hb3 := hid (Hb2.out.trans (hb3.mono Hb2.out.size));have Hb23 := hid hb3;clear hb3;by_cases hlt : j < nl
      ·have hli : (j : Int) < (nl : Int) := by omega
       have hj0 : (0 : Int) <= (j : Int) := by omega
       have hjl : j < l.length := by have := Hnl.out; omega
       obtain ⟨ad, rfl, hadl, hrow⟩ := rowVd (RowsV.below Hl.out Hb3.out) hjl;have hwt := vdsWt_mem (List.getElem_mem hjl);obtain ⟨v, hv⟩ := xE l[j];rw [hv] at hrow hwt;obtain ⟨vk, vm, vx, vl, vks⟩ := v;obtain ⟨a, ha⟩ := xE vl.length;obtain ⟨b, hb⟩ := xE vks.length;obtain ⟨Bl, dl, Bk, dk, v0, v1, v2, v3, v4, rl, rk⟩ := Vd.at_ hrow ha hb;have HC := hid (fun dp => HIH.out vk vm vx vl vks a b ha hb (by omega) (by omega) dp Bl Bk dl dk W3 rl rk);clear hrow rl rk ha hb hwt hv;go_upto_region 17 with (go_at_call 17; refine (HC.out _).mono ?_; rintro e w4 ⟨er, rfl, hb4⟩)
       have Hb4 := hid (Hb3.out.trans (hb4.mono Hb3.out.size));have Hb24 := hid (Hb23.out.trans (hb4.mono Hb23.out.size));clear hb4 v0 v1 v2 v3 v4 c3;by_cases h0 : er = 0
       ·subst h0;go_wp2_with fail
        go_roundw
        case rel => exact ⟨j + 1, by omega, by go_num, Hb24.out⟩
        simp [intOf]; omega
       have h0b : (er != 0) = true := bne_iff_ne.2 h0;go_wp2_with fail
       go_ret;exact ⟨er, rfl, Hb4.out⟩
      obtain rfl : j = nl := by omega
      go_wp2_with fail
      go_ret;exact ⟨0, rfl, Hb3.out⟩
     go_wp2_with fail
     go_ret;exact ⟨9, rfl, Hb2.out⟩
    go_wp2_with fail
    go_ret;exact ⟨9, rfl, Hb.out⟩
   go_wp2_with fail
   go_ret;exact ⟨3, rfl, Hb.out⟩
  go_wp2_with fail
  go_ret;exact ⟨42, rfl, Hb.out⟩
end Go.Proofs.YtkcnmjdomipbjaaGreat
