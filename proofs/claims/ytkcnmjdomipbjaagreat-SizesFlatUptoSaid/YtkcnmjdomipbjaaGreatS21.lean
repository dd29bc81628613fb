import Derived.Deep.Cut
import Derived.Test.YtkcnmjdomipbjaaGreatS20
set_option linter.unusedVariables false
set_option maxHeartbeats 100000000
set_option maxRecDepth 100000
namespace Go.Proofs.YtkcnmjdomipbjaaGreat
open Go.RowKit
theorem argMay_any {S : Nat -> Prop} (a : Ar) (np : Nat) (hnp : a.path.length = np) (A : Option Addr) (c : Nat) (w : World) (ha : ArOk 1048577 a) (hr : RowsV w S 1 A 0 (strRows a.path)) : Calls Tryz.prog 64 #[.agg #[.int .i64 a.k, .string a.nm, .slice A np c, .int .i64 a.n, .string a.x]] w (AB w) := by
 obtain ⟨k, nm, path, m, x⟩ := a
 obtain ⟨a1, a2, a3, a4⟩ := ha
 simp only at a1 a2 a3 a4 hr hnp ⊢
 have HN := hid (fun s hs W => name_any s W hs)
 have HNm := hid (HN.out nm (by omega))
 obtain ⟨W, hW⟩ := xE (w.alloc (.cells #[.int .i64 k, .string nm, .slice A np c, .int .i64 m, .string x] 137))
 have HS : Hid (Blk W w.heap.size 137 #[.int .i64 k, .string nm, .slice A np c, .int .i64 m, .string x]) := hid (by rw [<- hW]; exact Blk.new w _ _)
 have HbW : Hid (Below w.heap.size w W) := hid (by rw [<- hW]; go_grown)
 have HR := hid (RowsV.below hr HbW.out)
 have hnp2 : np <= 1048577 := by omega
 obtain ⟨pt, hpt⟩ := xE w.heap.size
 rw [hpt] at HS
 obtain ⟨⟨c0, c1, c2, c3, c4⟩, f0, f1, f2, f3, f4⟩ := blk5_cells HS.out
 have Ha4 := hid a4
 have Hnp := hid hnp
 clear hr a4 hnp
 go_enter Tryz.func64, Tryz.ntmps64
 go_wp2_with fail
 clear hW
 go_loop [3] (fun i => ∃ j : Nat, j <= np /\ i = .int .i64 (j : Int)) (fun i => np - (intOf i).toNat)
 case atStart => exact ⟨0, Nat.zero_le _, rfl⟩
 obtain ⟨j, hj, rfl⟩ := hrel
 by_cases hlt : j < np
 ·have hli : (j : Int) < np := by omega
  have hjl : j < path.length := by have := Hnp.out; omega
  obtain ⟨ad, rfl, _, _, hrow⟩ := RowsV.get (f := fun x => [Dt.str x]) HR.out hjl;have hc := Str.at_ hrow;rw [Nat.mul_one] at hc;have hpz := Ha4.out _ (List.getElem_mem hjl);obtain ⟨p, hp⟩ := xE path[j];rw [hp] at hc hpz;clear hp hjl hrow;have HNp := hid (HN.out p (by omega));go_wp2_with (go_at_call 51; refine (HNp.out _).mono ?_; rintro e w1 ⟨b, rfl, hw⟩; obtain rfl := hw)
  all_goals first
   | (go_ret; exact ⟨_, rfl, HbW.out⟩)
   | (go_round
      case rel => exact ⟨j + 1, by omega, by go_num⟩
      simp [intOf]; omega)
 have hlf : ¬ ((j : Int) < np) := by omega
 obtain ⟨q3, hq3⟩ := xE (k != 3)
 obtain ⟨q4, hq4⟩ := xE (k != 4)
 obtain ⟨q2, hq2⟩ := xE (k == 2)
 obtain ⟨qm, hqm⟩ := xE (m != 0)
 obtain ⟨qx, hqx⟩ := xE (!x.toList.isEmpty)
 obtain ⟨qn, hqn⟩ := xE nm.toList.isEmpty
 rcases Nat.eq_zero_or_pos np with h0 | h0
 ·subst h0;go_upto_region 6 with fail
  go_cut [37] from 4 (fun c wx => ∃ b : Bool, c = .bool b /\ wx = W)
  case first =>
   go_wp2_with fail
   all_goals (
    go_meet;exact ⟨_, rfl, rfl⟩)
  obtain ⟨b, rfl, hwc⟩ := hcut;obtain rfl := hwc;cases b
  ·go_upto_region 8 with fail
   go_cut [66] from 4 (fun c wx => ∃ b : Bool, c = .bool b /\ wx = wc)
   case first =>
    go_wp2_with fail
    all_goals (
     go_meet;exact ⟨_, rfl, rfl⟩)
   obtain ⟨b, rfl, hwc⟩ := hcut;obtain rfl := hwc;cases b
   ·go_wp2_with (go_at_call 51; refine (HNm.out _).mono ?_; rintro e w1 ⟨b, rfl, hw⟩; obtain rfl := hw)
    all_goals (go_ret; exact ⟨_, rfl, HbW.out⟩)
   go_wp2_with fail
   go_ret;exact ⟨_, rfl, HbW.out⟩
  go_wp2_with fail
  go_ret;exact ⟨_, rfl, HbW.out⟩
 have h0i : (0 : Int) < (np : Int) := by omega
 go_upto_region 6 with fail
 go_cut [37] from 4 (fun c wx => ∃ b : Bool, c = .bool b /\ wx = W)
 case first =>
  go_wp2_with fail
  all_goals (
   go_meet;exact ⟨_, rfl, rfl⟩)
 obtain ⟨b, rfl, hwc⟩ := hcut
 obtain rfl := hwc
 cases b
 ·go_upto_region 8 with fail
  go_cut [66] from 4 (fun c wx => ∃ b : Bool, c = .bool b /\ wx = wc)
  case first =>
   go_wp2_with fail
   all_goals (
    go_meet;exact ⟨_, rfl, rfl⟩)
  obtain ⟨b, rfl, hwc⟩ := hcut;obtain rfl := hwc;cases b
  ·go_wp2_with (go_at_call 51; refine (HNm.out _).mono ?_; rintro e w1 ⟨b, rfl, hw⟩; obtain rfl := hw)
   all_goals (go_ret; exact ⟨_, rfl, HbW.out⟩)
  go_wp2_with fail
  go_ret;exact ⟨_, rfl, HbW.out⟩
 go_wp2_with fail
 go_ret
 exact ⟨_, rfl, HbW.out⟩
def CaOk (c : Ca) : Prop := c.args.length <= 1048576 /\ ∀ a ∈ c.args, ArOk 1048577 a
theorem may19_any {S : Nat -> Prop} (l : List Ca) (n : Nat) (hn : l.length = n) (A : Option Addr) (c : Nat) (w : World) (hl : ∀ c ∈ l, CaOk c) (hr : RowsV w S 2 A 0 (l.map Ca.row)) (hz : n <= 1048576) : Calls Tryz.prog 52 #[.slice A n c] w (AB w) := by
 have HA := hid (fun a np hnp A c W ha hr => argMay_any (S := S) a np hnp A c W ha hr)
 have HR := hid (fun s W => arity_any s W)
 have Hl := hid hl
 have Hr := hid hr
 have Hn := hid hn
 clear hl hr hn
 obtain ⟨q1, hq1⟩ := xE (decide ((n : Int) < 1))
 obtain ⟨q16, hq16⟩ := xE (decide ((16 : Int) < (n : Int)))
 go_enter Tryz.func52, Tryz.ntmps52
 go_upto_region 1 with fail
 go_cut [16] from 9 (fun c wx => ∃ b : Bool, c = .bool b /\ wx = w)
 case first =>
  go_wp2_with fail
  all_goals (
   go_meet;exact ⟨_, rfl, rfl⟩)
 obtain ⟨b, rfl, hwc⟩ := hcut
 obtain rfl := hwc
 clear hq1 hq16
 cases b
 ·go_wp2_with fail
  go_loopw [3] (fun i wr => ∃ j : Nat, j <= n /\ i = .int .i64 (j : Int) /\ Below wc.heap.size wc wr) (fun i _ => n - (intOf i).toNat)
  case atStart => exact ⟨0, Nat.zero_le _, rfl, Below.refl _ _⟩
  obtain ⟨j, hj, rfl, hb⟩ := hrel;by_cases hlt : j < n
  ·have hli : (j : Int) < n := by omega
   have hjl : j < l.length := by have := Hn.out; omega
   obtain ⟨ad, rfl, _, hadl, hrow⟩ := RowsV.get (RowsV.below Hr.out hb) hjl;have hok := Hl.out _ (List.getElem_mem hjl);obtain ⟨p, hp⟩ := xE l[j];rw [hp] at hok hrow;clear hp hjl;obtain ⟨nm, ags⟩ := p;obtain ⟨na, hna⟩ := xE ags.length;obtain ⟨ca, Aa, cca, cb, hra⟩ := Ca.at_ hrow hna;simp only at ca hra;have hnaz : na <= 1048576 := by have := hok.1; simp only at this; omega
   have Hok := hid hok.2;have Hra := hid hra;have Hna := hid hna;clear hok hra hna hrow;obtain ⟨W0, rfl⟩ := xS wr;go_wp2_with fail
   go_loopw [4] (fun i ws => ∃ m : Nat, m <= na /\ i = .int .i64 (m : Int) /\ Below W0.heap.size W0 ws) (fun i _ => na - (intOf i).toNat)
   case atStart => exact ⟨0, Nat.zero_le _, rfl, Below.refl _ _⟩
   obtain ⟨m, hm, rfl, hbs⟩ := hrel;have ca2 := (hbs.cell (p := ad.add (j * 2)) (by rw [block_of_add]; exact hadl)).trans ca;have cb2 := (hbs.cell (p := ⟨(ad.add (j * 2)).block, (ad.add (j * 2)).off + 1, none⟩) (by show (ad.add (j * 2)).block < _; rw [block_of_add]; exact hadl)).trans cb;have hbw : Below wc.heap.size wc wr := hb.trans (hbs.mono hb.size);by_cases hmt : m < na
   ·have hmi : (m : Int) < na := by omega
    have hml : m < ags.length := by have := Hna.out; omega
    obtain ⟨ae, hAe, _, hael, hrow⟩ := RowsV.get (RowsV.below Hra.out hbs) hml;subst hAe;have hok := Hok.out _ (List.getElem_mem hml);obtain ⟨p, hp⟩ := xE ags[m];rw [hp] at hok hrow;clear hp hml;obtain ⟨np, hnp⟩ := xE p.path.length;obtain ⟨e0, e1, ⟨Ap, cp, e2, hrp⟩, e3, e4⟩ := Ar.at_ hrow hnp;have HA1 := hid (HA.out p np hnp Ap cp wr hok hrp);clear hok hrp hrow hnp;obtain ⟨ak, anm, ap, an, ax⟩ := p;simp only at e0 e1 e2 e3 e4 HA1;go_wp2_with (go_at_call 64; refine HA1.out.mono ?_; rintro e w1 ⟨b, rfl, hb1⟩)
    all_goals first
     | (go_ret; exact ⟨_, rfl, hbw.trans (hb1.mono hbw.size)⟩)
     | (go_roundw
        case rel => exact ⟨m + 1, by omega, by go_num, hbs.trans (hb1.mono hbs.size)⟩
        simp [intOf]; omega)
   have hmf : ¬ ((m : Int) < na) := by omega
   have HRn := hid (fun W => HR.out nm W);obtain ⟨qn, hqn⟩ := xE nm.toList.isEmpty;obtain ⟨qa, hqa⟩ := xE ((na : Int) != 1);go_wp2_with (go_at_call 65; refine (HRn.out _).mono ?_; rintro e w1 ⟨a, b, ok, rfl, _, hw⟩; obtain rfl := hw)
   all_goals first
    | (go_ret; exact ⟨_, rfl, hbw⟩)
    | (go_roundw
       case rel => exact ⟨j + 1, by omega, by go_num, hbw⟩
       simp [intOf]; omega)
  have hlf : ¬ ((j : Int) < n) := by omega
  go_wp2_with fail
  go_ret;exact ⟨_, rfl, hb⟩
 go_wp2_with fail
 go_ret
 exact ⟨_, rfl, Below.refl _ _⟩
end Go.Proofs.YtkcnmjdomipbjaaGreat
