import Derived.Deep.QuietTactic
import Derived.Test.YtkcnmjdomipbjaaGreatS40
set_option linter.unusedVariables false
set_option maxHeartbeats 100000000
set_option maxRecDepth 100000
namespace Go.Proofs.YtkcnmjdomipbjaaGreat
open Go.RowKit
def PSz (m n : Nat) (w : World) (e : Ending) (w' : World) : Prop := ∃ t : ByteArray, e = .returned (.string t) /\ t.size + m <= n /\ Below w.heap.size w w'
theorem vdsWt_snoc : ∀ (l : List Vd) (v : Vd), vdsWt (l ++ [v]) = vdsWt l + v.wt
 | [], v => by simp [vdsWt]
 | q :: l, v => by
  rw [List.cons_append, vdsWt, vdsWt_snoc l v, vdsWt]; omega
theorem strWt_snoc : ∀ (l : List ByteArray) (x : ByteArray), strWt (l ++ [x]) = strWt l + (1 + x.size)
 | [], x => by simp [strWt]
 | q :: l, x => by
  rw [List.cons_append, strWt, strWt_snoc l x, strWt]; omega
theorem take_snoc {α : Type} {l : List α} {j : Nat} (h : j < l.length) : l.take (j + 1) = l.take j ++ [l[j]] := by simp
theorem vdsWt_take {l : List Vd} {j : Nat} (h : j < l.length) : vdsWt (l.take (j + 1)) = vdsWt (l.take j) + (l[j]).wt := by rw [take_snoc h, vdsWt_snoc]
theorem strWt_take {l : List ByteArray} {j : Nat} (h : j < l.length) : strWt (l.take (j + 1)) = strWt (l.take j) + (1 + (l[j]).size) := by rw [take_snoc h, strWt_snoc]
theorem strWt_take' (l : List ByteArray) (j : Nat) : strWt (l.take j) <= strWt (l.take (j + 1)) := by
 rcases Nat.lt_or_ge j l.length with h | h
 ·rw [strWt_take h]; omega
 rw [List.take_of_length_le h, List.take_of_length_le (Nat.le_succ_of_le h)]
 exact Nat.le_refl _
theorem vdsWt_take_le : ∀ (l : List Vd) (j : Nat), vdsWt (l.take j) <= vdsWt l
 | [], j => by simp [vdsWt]
 | x :: r, 0 => by simp [vdsWt]
 | x :: r, j + 1 => by
  have := vdsWt_take_le r j;rw [List.take_succ_cons, vdsWt, vdsWt]; omega
theorem strWt_take_le : ∀ (l : List ByteArray) (j : Nat), strWt (l.take j) <= strWt l
 | [], j => by simp [strWt]
 | x :: r, 0 => by simp [strWt]
 | x :: r, j + 1 => by
  have := strWt_take_le r j;rw [List.take_succ_cons, strWt, strWt]; omega
theorem print04_any : ∀ (N : Nat) (k m : Int) (x : ByteArray) (l : List Vd) (ks : List ByteArray) (nl nk : Nat) (hnl : l.length = nl) (hnk : ks.length = nk) (hN : (Vd.mk k m x l ks).wt <= N) (hz : N <= 4194304) (Al Ak : Option Addr) (cl ck : Nat) (w : World) (hl : RowsV w (fun _ => True) 5 Al 0 (vdRows l)) (hk : RowsV w (fun _ => True) 1 Ak 0 (strRows ks)), Calls Tryz.prog 92 #[.agg #[.int .i64 k, .int .i64 m, .string x, .slice Al nl cl, .slice Ak nk ck]] w (PSz 2 (4 * (Vd.mk k m x l ks).wt) w) := by
 intro N
 induction N with
 | zero =>
  intro k m x l ks nl nk hnl hnk hN;have := (Vd.mk k m x l ks).wt_pos;omega
 | succ N ih =>
  intro k m x l ks nl nk hnl hnk hN hz Al Ak cl ck w hl hk;rw [Vd.wt] at hN ⊢;have hlen := vdsWt_len l;have hlen2 := strWt_len ks;have hnlz : nl <= 4194304 := by omega
  have hnkz : nk <= 4194304 := by omega
  have HIH := hid ih;have Hl := hid hl;have Hk := hid hk;have Hnl := hid hnl;have Hnk := hid hnk;have HP := hid (fun W => printS_any m W);clear ih hl hk hnl hnk;obtain ⟨W, hW⟩ := xE (w.alloc (.cells #[.int .i64 k, .int .i64 m, .string x, .slice Al nl cl, .slice Ak nk ck] 25));have hbw : Below w.heap.size w W := by rw [<- hW]; exact alloc_below _ _
  have HX : Hid (Blk W w.heap.size 25 #[.int .i64 k, .int .i64 m, .string x, .slice Al nl cl, .slice Ak nk ck]) := hid (by rw [<- hW]; exact Blk.new _ _ _);have Hb := hid hbw;obtain ⟨pt, hpt⟩ := xE w.heap.size;rw [hpt] at HX;clear hbw;obtain ⟨⟨c0, c1, c2, c3, c4⟩, -⟩ := blk5_cells HX.out;have z0 : (⟨#[]⟩ : ByteArray).size = 0 := rfl;have z1 : (⟨#[32]⟩ : ByteArray).size = 1 := rfl;have z2 : (⟨#[58]⟩ : ByteArray).size = 1 := rfl;have z3 : (⟨#[91]⟩ : ByteArray).size = 1 := rfl;have z4 : (⟨#[93]⟩ : ByteArray).size = 1 := rfl;have z5 : (⟨#[123]⟩ : ByteArray).size = 1 := rfl;have z6 : (⟨#[125]⟩ : ByteArray).size = 1 := rfl;have z7 : (⟨#[110, 117, 108, 108]⟩ : ByteArray).size = 4 := rfl;have z8 : (⟨#[102, 97, 108, 115, 101]⟩ : ByteArray).size = 5 := rfl;have z9 : (⟨#[116, 114, 117, 101]⟩ : ByteArray).size = 4 := rfl;obtain ⟨q0, hq0⟩ := xE (k == 0);obtain ⟨q1, hq1⟩ := xE (k == 1);obtain ⟨q2, hq2⟩ := xE (k == 2);obtain ⟨q3, hq3⟩ := xE (k == 3);obtain ⟨q5, hq5⟩ := xE (k == 5);obtain ⟨q6, hq6⟩ := xE (k == 6);go_enter Tryz.func92, Tryz.ntmps92;cases q0;case true =>
   go_wp2_with fail
   go_ret;exact ⟨_, rfl, by omega, Hb.out⟩
  cases q1;case true =>
   go_wp2_with fail
   go_ret;exact ⟨_, rfl, by omega, Hb.out⟩
  cases q2;case true =>
   go_wp2_with fail
   go_ret;exact ⟨_, rfl, by omega, Hb.out⟩
  cases q3;case true =>
   go_wp2_with (go_at_call 106; refine (HP.out _).mono ?_; rintro e w4 ⟨t2, rfl, ht2, hw4⟩; obtain rfl := hw4)
   go_ret;exact ⟨_, rfl, by omega, Hb.out⟩
  cases q5;case true =>
   have e6 : q6 = false := by
    rw [<- hq6];have := eq_of_beq hq5;subst this;rfl
   subst e6;go_upto_region 12 with fail
   all_goals (
    go_wp2_with fail
    go_loopw [3, 4] (fun o i wr => ∃ (j : Nat) (t : ByteArray), j <= nl /\ i = .int .i64 (j : Int) /\ o = .string t /\ t.size <= 4 * vdsWt (l.take j) + strWt (ks.take j) /\ Below W.heap.size W wr) (fun _ i _ => nl - (intOf i).toNat)
    case atStart => exact ⟨0, _, Nat.zero_le _, rfl, rfl, Nat.zero_le _, Below.refl _ _⟩
    obtain ⟨j, t, hj, rfl, rfl, ht, hb⟩ := hrel;obtain ⟨W3, rfl⟩ := xS wr;obtain ⟨⟨c0, c1, c2, c3, c4⟩, -⟩ := blk5_cells (HX.out.below hb HX.out.lt);have Hb3 := hid (Hb.out.trans (hb.mono Hb.out.size));have Hb23 := hid hb;clear hb;have hj0 : (0 : Int) <= (j : Int) := by omega
    by_cases hlt : j < nl
    ·have hli : (j : Int) < (nl : Int) := by omega
     have hjl : j < l.length := by have := Hnl.out; omega
     obtain ⟨ad, rfl, hadl, hrow⟩ := rowVd (RowsV.below Hl.out Hb3.out) hjl;have hwt := vdsWt_mem (List.getElem_mem hjl);have hvt := vdsWt_take hjl;obtain ⟨v, hv⟩ := xE l[j];rw [hv] at hrow hwt hvt;obtain ⟨vk, vm, vx, vl, vks⟩ := v;obtain ⟨a, ha⟩ := xE vl.length;obtain ⟨b, hb⟩ := xE vks.length;obtain ⟨Bl, dl, Bk, dk, v0, v1, v2, v3, v4, rl, rk⟩ := Vd.at_ hrow ha hb;have HC := hid (HIH.out vk vm vx vl vks a b ha hb (by omega) (by omega) Bl Bk dl dk W3 rl rk);have hst := strWt_take' ks j;have htz : t.size <= 104857600 := by have := vdsWt_take_le l j; have := strWt_take_le ks j; omega
     have Hwt := hid hwt;have Hvt := hid hvt;have Hst := hid hst;have Ht := hid ht;clear hrow rl rk ha hb hv hwt hvt hst ht;have hcases : (j = 0 ∨ 0 < j) := by omega
     rcases hcases with hj1 | hj1
     ·have hj1i : ¬ ((0 : Int) < (j : Int)) := (by omega); clear hj1;go_wp2_with (go_at_call 92; refine HC.out.mono ?_; rintro e w4 ⟨t2, rfl, ht2, hb4⟩; have h2z : t2.size <= 104857600 := (by have := Hwt.out; omega))
      go_roundw
      case rel => exact ⟨j + 1, _, by omega, by go_num, rfl, by have h1 := Hwt.out; have h2 := Hvt.out; have h3 := Hst.out; have h4 := Ht.out; simp only [ByteArray.size_append]; omega, Hb23.out.trans (hb4.mono Hb23.out.size)⟩
      simp [intOf]; omega
     have hj1i : (0 : Int) < (j : Int) := by omega
     go_wp2_with (go_at_call 92; refine HC.out.mono ?_; rintro e w4 ⟨t2, rfl, ht2, hb4⟩; have h2z : t2.size <= 104857600 := (by have := Hwt.out; omega))
     go_roundw
     case rel => exact ⟨j + 1, _, by omega, by go_num, rfl, by have h1 := Hwt.out; have h2 := Hvt.out; have h3 := Hst.out; have h4 := Ht.out; simp only [ByteArray.size_append]; omega, Hb23.out.trans (hb4.mono Hb23.out.size)⟩
     simp [intOf]; omega
    have hli : ¬ ((j : Int) < (nl : Int)) := by omega
    have hle := strWt_take_le ks j;have hle2 : vdsWt (l.take j) <= vdsWt l := by rw [List.take_of_length_le (by have := Hnl.out; omega)]; exact Nat.le_refl _
    obtain rfl : j = nl := by omega
    go_wp2_with fail
    all_goals (
     go_ret;exact ⟨_, rfl, by simp only [ByteArray.size_append]; omega, Hb3.out⟩))
  cases q6;case false =>
   go_wp2_with fail
   go_ret;exact ⟨_, rfl, by omega, Hb.out⟩
  go_upto_region 12 with fail
  all_goals (
   go_wp2_with fail
   go_loopw [3, 4] (fun o i wr => ∃ (j : Nat) (t : ByteArray), j <= nl /\ i = .int .i64 (j : Int) /\ o = .string t /\ t.size <= 4 * vdsWt (l.take j) + strWt (ks.take j) /\ Below W.heap.size W wr) (fun _ i _ => nl - (intOf i).toNat)
   case atStart => exact ⟨0, _, Nat.zero_le _, rfl, rfl, Nat.zero_le _, Below.refl _ _⟩
   obtain ⟨j, t, hj, rfl, rfl, ht, hb⟩ := hrel;obtain ⟨W3, rfl⟩ := xS wr;obtain ⟨⟨c0, c1, c2, c3, c4⟩, -⟩ := blk5_cells (HX.out.below hb HX.out.lt);have Hb3 := hid (Hb.out.trans (hb.mono Hb.out.size));have Hb23 := hid hb;clear hb;have hj0 : (0 : Int) <= (j : Int) := by omega
   by_cases hlt : j < nl
   ·have hli : (j : Int) < (nl : Int) := by omega
    have hjl : j < l.length := by have := Hnl.out; omega
    obtain ⟨ad, rfl, hadl, hrow⟩ := rowVd (RowsV.below Hl.out Hb3.out) hjl;have hwt := vdsWt_mem (List.getElem_mem hjl);have hvt := vdsWt_take hjl;obtain ⟨v, hv⟩ := xE l[j];rw [hv] at hrow hwt hvt;obtain ⟨vk, vm, vx, vl, vks⟩ := v;obtain ⟨a, ha⟩ := xE vl.length;obtain ⟨b, hb⟩ := xE vks.length;obtain ⟨Bl, dl, Bk, dk, v0, v1, v2, v3, v4, rl, rk⟩ := Vd.at_ hrow ha hb;have HC := hid (HIH.out vk vm vx vl vks a b ha hb (by omega) (by omega) Bl Bk dl dk W3 rl rk);have hst := strWt_take' ks j;have htz : t.size <= 104857600 := by have := vdsWt_take_le l j; have := strWt_take_le ks j; omega
    have Hwt := hid hwt;have Hvt := hid hvt;have Hst := hid hst;have Ht := hid ht;clear hrow rl rk ha hb hv hwt hvt hst ht;have hcases : (j = 0 ∨ 0 < j) := by omega
    by_cases hkt : j < nk
    ·have hki : (j : Int) < (nk : Int) := by omega
     have hjk : j < ks.length := by have := Hnk.out; omega
     obtain ⟨ak, rfl, _, hakl, hrow⟩ := RowsV.get (f := fun x => [Dt.str x]) (RowsV.below Hk.out Hb3.out) hjk;have hkw := strWt_take hjk;obtain ⟨d, hd⟩ := xE ks[j];rw [hd] at hrow hkw;have a0 := Str.at_ hrow;have hdz : d.size <= 104857600 := by have := strWt_mem (List.getElem_mem hjk); rw [hd] at this; omega
     simp only [Nat.mul_one] at a0;have Hkw := hid hkw;clear hrow hd hkw;rcases hcases with hj1 | hj1
     ·have hj1i : ¬ ((0 : Int) < (j : Int)) := (by omega); clear hj1;go_wp2_with (go_at_call 92; refine HC.out.mono ?_; rintro e w4 ⟨t2, rfl, ht2, hb4⟩; have h2z : t2.size <= 104857600 := (by have := Hwt.out; omega))
      go_roundw
      case rel => exact ⟨j + 1, _, by omega, by go_num, rfl, by have h1 := Hwt.out; have h2 := Hvt.out; have h3 := Hst.out; have h4 := Ht.out; have h5 := Hkw.out; simp only [ByteArray.size_append]; omega, Hb23.out.trans (hb4.mono Hb23.out.size)⟩
      simp [intOf]; omega
     have hj1i : (0 : Int) < (j : Int) := by omega
     go_wp2_with (go_at_call 92; refine HC.out.mono ?_; rintro e w4 ⟨t2, rfl, ht2, hb4⟩; have h2z : t2.size <= 104857600 := (by have := Hwt.out; omega))
     go_roundw
     case rel => exact ⟨j + 1, _, by omega, by go_num, rfl, by have h1 := Hwt.out; have h2 := Hvt.out; have h3 := Hst.out; have h4 := Ht.out; have h5 := Hkw.out; simp only [ByteArray.size_append]; omega, Hb23.out.trans (hb4.mono Hb23.out.size)⟩
     simp [intOf]; omega
    have hki : ¬ ((j : Int) < (nk : Int)) := by omega
    rcases hcases with hj1 | hj1
    ·have hj1i : ¬ ((0 : Int) < (j : Int)) := (by omega); clear hj1;go_wp2_with (go_at_call 92; refine HC.out.mono ?_; rintro e w4 ⟨t2, rfl, ht2, hb4⟩; have h2z : t2.size <= 104857600 := (by have := Hwt.out; omega))
     go_roundw
     case rel => exact ⟨j + 1, _, by omega, by go_num, rfl, by have h1 := Hwt.out; have h2 := Hvt.out; have h3 := Hst.out; have h4 := Ht.out; simp only [ByteArray.size_append]; omega, Hb23.out.trans (hb4.mono Hb23.out.size)⟩
     simp [intOf]; omega
    have hj1i : (0 : Int) < (j : Int) := by omega
    go_wp2_with (go_at_call 92; refine HC.out.mono ?_; rintro e w4 ⟨t2, rfl, ht2, hb4⟩; have h2z : t2.size <= 104857600 := (by have := Hwt.out; omega))
    go_roundw
    case rel => exact ⟨j + 1, _, by omega, by go_num, rfl, by have h1 := Hwt.out; have h2 := Hvt.out; have h3 := Hst.out; have h4 := Ht.out; simp only [ByteArray.size_append]; omega, Hb23.out.trans (hb4.mono Hb23.out.size)⟩
    simp [intOf]; omega
   have hli : ¬ ((j : Int) < (nl : Int)) := by omega
   have hle := strWt_take_le ks j;have hle2 : vdsWt (l.take j) <= vdsWt l := by rw [List.take_of_length_le (by have := Hnl.out; omega)]; exact Nat.le_refl _
   obtain rfl : j = nl := by omega
   go_wp2_with fail
   all_goals (
    go_ret;exact ⟨_, rfl, by simp only [ByteArray.size_append]; omega, Hb3.out⟩))
theorem uValue : (Tryz.prog.info? 25).map (·.size) = some 5 := by kernel_rfl
theorem eqn_of {a b : Nat} (h : ((a : Int) != (b : Int)) = false) : a = b := by
 have : (a : Int) = (b : Int) := by simpa using h
 omega
theorem yields_run {ops : Array Oper} {S : World -> Prop} {op : Oper} {a : Act} {v : Value} (hw : Region.wanted op (yielded ops a.tmps) = true) (hrun : ∀ w, S w -> (execOp a.eval op).run Tryz.prog w = .ok (.value v) w) : YieldsIf Tryz.prog ops S op v a := .inl ⟨hw, hrun⟩
def VAt (p : Addr) (v0 v1 v2 v3 v4 : Value) (w : World) : Prop := w.cell? p = some v0 /\ w.cell? ⟨p.block, p.off + 1, none⟩ = some v1 /\ w.cell? ⟨p.block, p.off + 2, none⟩ = some v2 /\ w.cell? ⟨p.block, p.off + 3, none⟩ = some v3 /\ w.cell? ⟨p.block, p.off + 4, none⟩ = some v4
theorem VAt.below {p : Addr} {v0 v1 v2 v3 v4 : Value} {w w' : World} (h : VAt p v0 v1 v2 v3 v4 w) (hb : Below w.heap.size w w') (hp : p.block < w.heap.size) : VAt p v0 v1 v2 v3 v4 w' :=
 ⟨(hb.cell (p := p) hp).trans h.1, (hb.cell (p := ⟨p.block, p.off + 1, none⟩) hp).trans h.2.1, (hb.cell (p := ⟨p.block, p.off + 2, none⟩) hp).trans h.2.2.1, (hb.cell (p := ⟨p.block, p.off + 3, none⟩) hp).trans h.2.2.2.1, (hb.cell (p := ⟨p.block, p.off + 4, none⟩) hp).trans h.2.2.2.2⟩
theorem Check04_any (k m : Int) (x : ByteArray) (l : List Vd) (ks : List ByteArray) (nl nk : Nat) (hnl : l.length = nl) (hnk : ks.length = nk) (hN : (Vd.mk k m x l ks).wt <= 1048583) (Al Ak : Option Addr) (cl ck : Nat) (w : World) (hl : RowsV w (fun _ => True) 5 Al 0 (vdRows l)) (hk : RowsV w (fun _ => True) 1 Ak 0 (strRows ks)) : Calls Tryz.prog 7 #[.agg #[.int .i64 k, .int .i64 m, .string x, .slice Al nl cl, .slice Ak nk ck]] w (PIW w) := by
 have HC := hid (fun W (hb : Below w.heap.size w W) => check04_any 1048583 k m x l ks nl nk hnl hnk hN (by omega) 0 Al Ak cl ck W (RowsV.below hl hb) (RowsV.below hk hb))
 obtain ⟨W, hW⟩ := xE (w.alloc (.cells #[.int .i64 k, .int .i64 m, .string x, .slice Al nl cl, .slice Ak nk ck] 25))
 have hbw : Below w.heap.size w W := by rw [<- hW]; exact alloc_below _ _
 have HX : Hid (Blk W w.heap.size 25 #[.int .i64 k, .int .i64 m, .string x, .slice Al nl cl, .slice Ak nk ck]) := hid (by rw [<- hW]; exact Blk.new _ _ _)
 have HC1 := hid (HC.out W hbw)
 have Hb := hid hbw
 obtain ⟨pt, hpt⟩ := xE w.heap.size
 rw [hpt] at HX
 clear hbw HC
 obtain ⟨⟨c0, c1, c2, c3, c4⟩, -⟩ := blk5_cells HX.out
 go_enter Tryz.func7, Tryz.ntmps7
 go_wp2_with (go_at_call 17; refine HC1.out.mono ?_; rintro e w3 ⟨n, rfl, hb3⟩)
 go_ret
 exact ⟨_, rfl, Hb.out.trans (hb3.mono Hb.out.size)⟩
theorem same04_any : ∀ (N : Nat) (k m : Int) (x : ByteArray) (l : List Vd) (ks : List ByteArray) (nl nk : Nat) (hnl : l.length = nl) (hnk : ks.length = nk) (hN : (Vd.mk k m x l ks).wt <= N) (Al Ak : Option Addr) (cl ck : Nat) (kb mb : Int) (xb : ByteArray) (lb : List Vd) (ksb : List ByteArray) (nlb nkb : Nat) (hnlb : lb.length = nlb) (hnkb : ksb.length = nkb) (hNb : (Vd.mk kb mb xb lb ksb).wt <= 1048583) (Alb Akb : Option Addr) (clb ckb : Nat) (hz : N <= 1048583) (w : World) (hl : RowsV w (fun _ => True) 5 Al 0 (vdRows l)) (hk : RowsV w (fun _ => True) 1 Ak 0 (strRows ks)) (hlb : RowsV w (fun _ => True) 5 Alb 0 (vdRows lb)) (hkb : RowsV w (fun _ => True) 1 Akb 0 (strRows ksb)), Calls Tryz.prog 103 #[.agg #[.int .i64 k, .int .i64 m, .string x, .slice Al nl cl, .slice Ak nk ck], .agg #[.int .i64 kb, .int .i64 mb, .string xb, .slice Alb nlb clb, .slice Akb nkb ckb]] w (AB w) := by
 intro N
 induction N with
 | zero =>
  intro k m x l ks nl nk hnl hnk hN;have := (Vd.mk k m x l ks).wt_pos;omega
 | succ N ih =>
  intro k m x l ks nl nk hnl hnk hN Al Ak cl ck kb mb xb lb ksb nlb nkb hnlb hnkb hNb Alb Akb clb ckb hz w hl hk hlb hkb;rw [Vd.wt] at hN hNb;have hlen := vdsWt_len l;have hlen2 := strWt_len ks;have hlen3 := vdsWt_len lb;have hlen4 := strWt_len ksb;have hnlz : nl <= 4194304 := by omega
  have hnkz : nk <= 4194304 := by omega
  have hnlz2 : nlb <= 4194304 := by omega
  have hnkz2 : nkb <= 4194304 := by omega
  have HIH := hid ih;have Hl := hid hl;have Hk := hid hk;have Hnl := hid hnl;have Hnk := hid hnk;have Hlb := hid hlb;have Hkb := hid hkb;have Hnlb := hid hnlb;have Hnkb := hid hnkb;clear ih hl hk hnl hnk hlb hkb hnlb hnkb;obtain ⟨W, hW⟩ := xE ((w.alloc (.cells #[.int .i64 k, .int .i64 m, .string x, .slice Al nl cl, .slice Ak nk ck] 25)).alloc (.cells #[.int .i64 kb, .int .i64 mb, .string xb, .slice Alb nlb clb, .slice Akb nkb ckb] 25));have hbw : Below w.heap.size w W := by rw [<- hW]; go_grown
  have HX : Hid (Blk W w.heap.size 25 #[.int .i64 k, .int .i64 m, .string x, .slice Al nl cl, .slice Ak nk ck]) := hid (by rw [<- hW]; exact (Blk.new w _ _).alloc _);have HY : Hid (Blk W (w.heap.size + 1) 25 #[.int .i64 kb, .int .i64 mb, .string xb, .slice Alb nlb clb, .slice Akb nkb ckb]) := hid (by rw [<- hW]; exact Blk.new_at _ _ (by simp) _ _);have Hb := hid hbw;obtain ⟨pt, hpt⟩ := xE w.heap.size;rw [hpt] at HX HY;clear hbw;obtain ⟨⟨c0, c1, c2, c3, c4⟩, -⟩ := blk5_cells HX.out;obtain ⟨⟨d0, d1, d2, d3, d4⟩, -⟩ := blk5_cells HY.out;go_enter Tryz.func103, Tryz.ntmps103;have hsz := hpt;go_upto_region 1 with fail
  clear hW;go_cut [43] from 7 to 43 (fun cc (wx : World) => ∃ b : Bool, cc = .bool b /\ wx = W /\ (b = false -> nl = nlb /\ nk = nkb))
  case first => as_aux_lemma =>
   obtain ⟨qk, hqk⟩ := xE (k != kb);obtain ⟨qm, hqm⟩ := xE (m != mb);obtain ⟨qx, hqx⟩ := xE (x.toList == xb.toList);obtain ⟨ql, hql⟩ := xE ((nl : Int) != (nlb : Int));obtain ⟨qn, hqn⟩ := xE ((nk : Int) != (nkb : Int));cases ql <;> cases qn
   all_goals (
    go_wp2_with fail
    all_goals (
     go_meet;first
     | exact ⟨_, rfl, rfl, fun h => ⟨eqn_of hql, eqn_of hqn⟩⟩
     | exact ⟨_, rfl, rfl, fun h => by cases h⟩))
  obtain ⟨b, rfl, hwc, hbb⟩ := hcut;obtain rfl := hwc;clear c0 c1 c2 c3 c4 d0 d1 d2 d3 d4;cases b;case true =>
   go_wp2_with fail
   go_ret;exact ⟨_, rfl, Hb.out⟩
  obtain ⟨e1, e2⟩ := hbb rfl;clear hbb;subst e1 e2;go_wp2_with fail
  go_loopw [5] (fun i wr => ∃ j : Nat, j <= nk /\ i = .int .i64 (j : Int) /\ Below wc.heap.size wc wr) (fun i _ => nk - (intOf i).toNat)
  case atStart => exact ⟨0, Nat.zero_le _, rfl, Below.refl _ _⟩
  obtain ⟨j, hj, rfl, hb⟩ := hrel;obtain ⟨W3, rfl⟩ := xS wr;have c4 := (blk5_cells (HX.out.below hb HX.out.lt)).1.2.2.2.2;have d4 := (blk5_cells (HY.out.below hb HY.out.lt)).1.2.2.2.2;have Hb3 := hid (Hb.out.trans (hb.mono Hb.out.size));have Hb23 := hid hb;clear hb;have hj0 : (0 : Int) <= (j : Int) := by omega
  by_cases hlt : j < nk
  ·have hli : (j : Int) < (nk : Int) := by omega
   have hjk : j < ks.length := by have := Hnk.out; omega
   have hjk2 : j < ksb.length := by have := Hnkb.out; omega
   obtain ⟨ak, rfl, _, hakl, hrow⟩ := RowsV.get (f := fun x => [Dt.str x]) (RowsV.below Hk.out Hb3.out) hjk;obtain ⟨ak2, rfl, _, hakl2, hrow2⟩ := RowsV.get (f := fun x => [Dt.str x]) (RowsV.below Hkb.out Hb3.out) hjk2;obtain ⟨d, hd⟩ := xE ks[j];obtain ⟨d', hd'⟩ := xE ksb[j];rw [hd] at hrow;rw [hd'] at hrow2;have a0 := Str.at_ hrow;have a1 := Str.at_ hrow2;simp only [Nat.mul_one] at a0 a1;clear hrow hd hrow2 hd';obtain ⟨qs, hqs⟩ := xE (d.toList == d'.toList);cases qs
   ·go_upto_region 6 with fail
    go_quiet (fail)
    go_wp2_with fail
    go_ret;exact ⟨_, rfl, below_drewN Hb3.out _⟩
   go_upto_region 6 with fail
   go_quiet (fail)
   go_wp2_with fail
   go_roundw
   case rel => exact ⟨j + 1, by omega, by go_num, below_drewN Hb23.out _⟩
   simp [intOf]; omega
  have hli : ¬ ((j : Int) < (nk : Int)) := by omega
  clear hlt;obtain rfl : j = nk := by omega
  go_wp2_with fail
  clear c4 d4;go_loopw [6] (fun i wr => ∃ j : Nat, j <= nl /\ i = .int .i64 (j : Int) /\ Below wc.heap.size wc wr) (fun i _ => nl - (intOf i).toNat)
  case atStart => exact ⟨0, Nat.zero_le _, rfl, Hb23.out⟩
  obtain ⟨i, hi, rfl, hb⟩ := hrel;obtain ⟨W4, rfl⟩ := xS wr;have c3 := (blk5_cells (HX.out.below hb HX.out.lt)).1.2.2.2.1;have d3 := (blk5_cells (HY.out.below hb HY.out.lt)).1.2.2.2.1;have Hb4 := hid (Hb.out.trans (hb.mono Hb.out.size));have Hb24 := hid hb;clear hb;have hi0 : (0 : Int) <= (i : Int) := by omega
  by_cases hlt : i < nl
  ·have hli2 : (i : Int) < (nl : Int) := by omega
   have hjl : i < l.length := by have := Hnl.out; omega
   have hjl2 : i < lb.length := by have := Hnlb.out; omega
   obtain ⟨ad, rfl, hadl, hrow⟩ := rowVd Hl.out hjl;obtain ⟨ad2, rfl, hadl2, hrow2⟩ := rowVd Hlb.out hjl2;have hwt := vdsWt_mem (List.getElem_mem hjl);have hwt2 := vdsWt_mem (List.getElem_mem hjl2);obtain ⟨v, hv⟩ := xE l[i];obtain ⟨v', hv'⟩ := xE lb[i];rw [hv] at hrow hwt;rw [hv'] at hrow2 hwt2;obtain ⟨vk, vm, vx, vl, vks⟩ := v;obtain ⟨vk', vm', vx', vl', vks'⟩ := v';obtain ⟨a, ha⟩ := xE vl.length;obtain ⟨b, hb⟩ := xE vks.length;obtain ⟨a', ha'⟩ := xE vl'.length;obtain ⟨b', hb'⟩ := xE vks'.length;obtain ⟨Bl, dl, Bk, dk, v0, v1, v2, v3, v4, rl, rk⟩ := Vd.at_ hrow ha hb;obtain ⟨Bl', dl', Bk', dk', v0', v1', v2', v3', v4', rl', rk'⟩ := Vd.at_ hrow2 ha' hb';have Hr1 : Hid (VAt (ad.add (i * 5)) _ _ _ _ _ w) := hid ⟨v0, v1, v2, v3, v4⟩;have Hr2 : Hid (VAt (ad2.add (i * 5)) _ _ _ _ _ w) := hid ⟨v0', v1', v2', v3', v4'⟩;have HC := hid (fun W (hbw : Below w.heap.size w W) => HIH.out vk vm vx vl vks a b ha hb (by omega) Bl Bk dl dk vk' vm' vx' vl' vks' a' b' ha' hb' (by omega) Bl' Bk' dl' dk' (by omega) W (RowsV.below rl hbw) (RowsV.below rk hbw) (RowsV.below rl' hbw) (RowsV.below rk' hbw));clear hrow rl rk ha hb hwt hv hrow2 rl' rk' ha' hb' hwt2 hv' v0 v1 v2 v3 v4 v0' v1' v2' v3' v4';have Hc3 := hid c3;have Hd3 := hid d3;go_upto_region 11 with fail
   clear c3 d3;refine wp_region_held_drew (S := fun wy => Below W4.heap.size W4 wy) (by kernel_rfl) (Below.refl _ _).drew (fun hHeld => ?_);refine tk 0 69 (.pointer (some ⟨pt, 3, none⟩)) rfl hHeld ?_;refine tq 1 70 (.slice (some ad) nl cl) rfl (yc pt 3 fun _ h => (h.cell (p := ⟨pt, 3, none⟩) (HX.out.below Hb24.out HX.out.lt).lt).trans Hc3.out) hHeld ?_;refine tk 2 71 (.int .i64 (i : Int)) rfl hHeld ?_;refine tk 3 72 (.pointer (some (ad.add (i * 5)))) rfl hHeld ?_;refine tq 4 73 (.agg #[.int .i64 vk, .int .i64 vm, .string vx, .slice Bl a dl, .slice Bk b dk]) rfl (yields_run (by rfl) (fun wy h => by obtain ⟨v0, v1, v2, v3, v4⟩ := Hr1.out.below (Hb4.out.trans (h.mono Hb4.out.size)) (by rw [block_of_add]; exact hadl); go_simp)) hHeld ?_;refine tk 5 74 (.pointer (some ⟨pt + 1, 3, none⟩)) rfl hHeld ?_;refine tq 6 75 (.slice (some ad2) nl clb) rfl (yc (pt + 1) 3 fun _ h => (h.cell (p := ⟨pt + 1, 3, none⟩) (HY.out.below Hb24.out HY.out.lt).lt).trans Hd3.out) hHeld ?_;refine tk 7 76 (.int .i64 (i : Int)) rfl hHeld ?_;refine tk 8 77 (.pointer (some (ad2.add (i * 5)))) rfl hHeld ?_;refine tq 9 78 (.agg #[.int .i64 vk', .int .i64 vm', .string vx', .slice Bl' a' dl', .slice Bk' b' dk']) rfl (yields_run (by rfl) (fun wy h => by obtain ⟨v0, v1, v2, v3, v4⟩ := Hr2.out.below (Hb4.out.trans (h.mono Hb4.out.size)) (by rw [block_of_add]; exact hadl2); go_simp)) hHeld ?_;refine wpAnyH_ready (rs := [10]) (by kernel_rfl) (by simp) ?_;refine callH 10 (some 79) rfl rfl (by rfl) (args := #[.agg #[.int .i64 vk, .int .i64 vm, .string vx, .slice Bl a dl, .slice Bk b dk], .agg #[.int .i64 vk', .int .i64 vm', .string vx', .slice Bl' a' dl', .slice Bk' b' dk']]) (by go_simp) (HC.out _ (Hb4.out.trans (hHeld.mono Hb4.out.size))) (fun e w5 hR => ?_) AllReadyH.nil;obtain ⟨q, rfl, hb5⟩ := hR;have hH5 := hHeld.trans (hb5.mono hHeld.size);refine ⟨_, rfl, hH5, ?_⟩;simp only [Act.put, aQ, aZ, aC];refine tk 11 80 (.bool (!q)) rfl hH5 ?_;refine wpAnyH_done (by kernel_rfl) ?_ _;(try simp only [Exit.then]);cases q
   ·go_wp2_with fail
    go_ret;exact ⟨_, rfl, Hb4.out.trans (hH5.mono Hb4.out.size)⟩
   go_wp2_with fail
   go_roundw
   case rel => exact ⟨i + 1, by omega, by go_num, Hb24.out.trans (hH5.mono Hb24.out.size)⟩
   simp [intOf]; omega
  have hli2 : ¬ ((i : Int) < (nl : Int)) := by omega
  clear hlt;obtain rfl : i = nl := by omega
  go_wp2_with fail
  go_ret;exact ⟨_, rfl, Hb4.out⟩
theorem prints_any (N : Nat) (l : List Vd) (nl : Nat) (hnl : l.length = nl) (hN : ∀ v ∈ l, v.wt <= N) (hz : N <= 4194304) (s : ByteArray) (hz2 : nl * (4 * N + s.size) <= 1099511627775) (A : Option Addr) (c : Nat) (w : World) (hl : RowsV w (fun _ => True) 5 A 0 (vdRows l)) (hlz : nl <= 4194304) : Calls Tryz.prog 84 #[.slice A nl c, .string s] w (PS (nl * (4 * N + s.size)) w) := by
 have Hl := hid hl
 have Hnl := hid hnl
 have HN := hid hN
 clear hl hnl hN
 go_enter Tryz.func84, Tryz.ntmps84
 go_wp2_with fail
 go_loopw [5, 6] (fun o i wr => ∃ (j : Nat) (t : ByteArray), j <= nl /\ i = .int .i64 (j : Int) /\ o = .string t /\ t.size <= j * (4 * N + s.size) /\ Below w.heap.size w wr) (fun _ i _ => nl - (intOf i).toNat)
 case atStart => exact ⟨0, _, Nat.zero_le _, rfl, rfl, by rw [Nat.zero_mul]; exact Nat.le_refl 0, Below.refl _ _⟩
 obtain ⟨j, t, hj, rfl, rfl, ht, hb⟩ := hrel
 obtain ⟨W3, rfl⟩ := xS wr
 have Hb3 := hid hb
 clear hb
 have hj0 : (0 : Int) <= (j : Int) := by omega
 by_cases hlt : j < nl
 ·have hli : (j : Int) < (nl : Int) := by omega
  have hjl : j < l.length := by have := Hnl.out; omega
  obtain ⟨ad, rfl, hadl, hrow⟩ := rowVd (RowsV.below Hl.out Hb3.out) hjl;have hwt := HN.out _ (List.getElem_mem hjl);obtain ⟨v, hv⟩ := xE l[j];rw [hv] at hrow hwt;obtain ⟨vk, vm, vx, vl, vks⟩ := v;obtain ⟨a, ha⟩ := xE vl.length;obtain ⟨b, hb⟩ := xE vks.length;obtain ⟨Bl, dl, Bk, dk, v0, v1, v2, v3, v4, rl, rk⟩ := Vd.at_ hrow ha hb;have HC := hid (print04_any N vk vm vx vl vks a b ha hb hwt hz Bl Bk dl dk W3 rl rk);have hm1 : j * (4 * N + s.size) + (4 * N + s.size) = (j + 1) * (4 * N + s.size) := by rw [Nat.add_mul, Nat.one_mul]
  have hm2 : (j + 1) * (4 * N + s.size) <= nl * (4 * N + s.size) := Nat.mul_le_mul_right _ hlt;obtain ⟨M, hM⟩ := xE ((j + 1) * (4 * N + s.size));obtain ⟨M0, hM0⟩ := xE (j * (4 * N + s.size));obtain ⟨M2, hM2⟩ := xE (nl * (4 * N + s.size));rw [hM] at hm1 hm2;rw [hM0] at hm1 ht;rw [hM2] at hm2 hz2;have HM := hid hM;have HM2 := hid hM2;have Hwt := hid hwt;have htz : t.size <= 1099511627775 := by omega
  have htz2 : t.size + s.size <= 1099511627775 := by omega
  have Hm1 := hid hm1;have Ht := hid ht;have Hm2 := hid (And.intro hm2 hz2);clear hrow rl rk ha hb hv hM hM0 hM2 hwt hm1 ht hm2 hz2;have hcases : (j = 0 ∨ 0 < j) := by omega
  rcases hcases with hj1 | hj1
  ·have hj1i : ¬ ((0 : Int) < (j : Int)) := (by omega); clear hj1;go_wp2_with (go_at_call 92; refine HC.out.mono ?_; rintro e w4 ⟨t2, rfl, ht2, hb4⟩; have h2z : t2.size <= 104858300 := (by have := Hwt.out; omega))
   go_roundw
   case rel => exact ⟨j + 1, _, by omega, by go_num, rfl, by rw [HM.out]; have h1 := Hm1.out; have h2 := Ht.out; have h3 := Hwt.out; simp only [ByteArray.size_append]; omega, Hb3.out.trans (hb4.mono Hb3.out.size)⟩
   simp [intOf]; omega
  have hj1i : (0 : Int) < (j : Int) := by omega
  go_wp2_with (go_at_call 92; refine HC.out.mono ?_; rintro e w4 ⟨t2, rfl, ht2, hb4⟩; have h2z : t2.size <= 104858300 := (by have := Hwt.out; omega); have htz3 : (t ++ s).size + t2.size <= 1099511627775 := (by have h1 := Hm1.out; have h2 := Ht.out; have h3 := Hwt.out; have h4 := Hm2.out; rw [ByteArray.size_append]; omega))
  go_roundw
  case rel => exact ⟨j + 1, _, by omega, by go_num, rfl, by rw [HM.out]; have h1 := Hm1.out; have h2 := Ht.out; have h3 := Hwt.out; simp only [ByteArray.size_append]; omega, Hb3.out.trans (hb4.mono Hb3.out.size)⟩
  simp [intOf]; omega
 have hli : ¬ ((j : Int) < (nl : Int)) := by omega
 obtain rfl : j = nl := by omega
 go_wp2_with fail
 go_ret
 exact ⟨_, rfl, ht, Hb3.out⟩
end Go.Proofs.YtkcnmjdomipbjaaGreat
