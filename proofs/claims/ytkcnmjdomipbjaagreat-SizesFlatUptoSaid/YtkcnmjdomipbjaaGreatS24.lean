import Derived.Deep.Cut
import Derived.Deep.RegionWith
import Derived.Test.YtkcnmjdomipbjaaGreatS21
import Derived.Test.YtkcnmjdomipbjaaGreatS23
set_option linter.unusedVariables false
set_option maxHeartbeats 100000000
set_option maxRecDepth 100000
namespace Go.Proofs.YtkcnmjdomipbjaaGreat
open Go.RowKit
theorem ArOk.mono {m n : Nat} {a : Ar} (h : ArOk m a) (hn : m <= n) : ArOk n a := ⟨Nat.le_trans h.1 hn, Nat.le_trans h.2.1 hn, Nat.le_trans h.2.2.1 hn, fun p hp => Nat.le_trans (h.2.2.2 p hp) hn⟩
def PCall (w : World) (e : Ending) (w' : World) : Prop := ∃ (c : Ca) (va : Value) (pl er : Int), e = .returned (.tuple #[.agg #[.string c.nm, va], .int .i64 pl, .int .i64 er]) /\ DtN 0 w.heap.size w' va (.rows 5 (c.args.map Ar.row)) /\ CaOk c /\ Below w.heap.size w w'
theorem PCall.zero {w w' : World} {pl er : Int} (hb : Below w.heap.size w w') : PCall w (.returned (.tuple #[.agg #[.string ⟨#[]⟩, .slice none 0 0], .int .i64 pl, .int .i64 er])) w' := ⟨⟨⟨#[]⟩, []⟩, _, pl, er, rfl, DtV.none_, ⟨Nat.zero_le _, fun _ h => by cases h⟩, hb⟩
theorem arg_cells {b0 lo : Nat} {w : World} {a : Ar} {vp : Value} (h : DtN b0 lo w vp (.rows 1 (strRows a.path))) : CellsV w (SD b0 lo w) [.int .i64 a.k, .string a.nm, vp, .int .i64 a.n, .string a.x] a.row :=
 ⟨_, _, rfl, DtV.int, _, _, rfl, DtV.str, _, _, rfl, h, _, _, rfl, DtV.int, _, _, rfl, DtV.str, rfl⟩
theorem CellsN.below {b0 lo : Nat} {w w' : World} {us : List Value} {r : List Dt} (h : CellsV w (SD b0 lo w) us r) (hb : Below w.heap.size w w') : CellsV w' (SD b0 lo w') us r :=
 CellsV.keep hb.size (fun b hS hl => ⟨hS.keep (hb.block b hl), hb.block b hl⟩) r us h
theorem DtN.one_row {lo g : Nat} {w : World} {e : TypeId} {us : List Value} {r : List Dt} {sz : Nat} (hB : Blk w g e us.toArray) (he : dT e = true) (hg : lo <= g) (hr : CellsV w (SD 0 lo w) us r) (hl : r.length = sz) : DtN 0 lo w (.slice (some ⟨g, 0, none⟩) 1 1) (.rows sz [r]) := by
 refine DtV.rows rfl (RowsV.of_flat (xs := us) ⟨.inr ⟨hg, _, _, _, hB, he⟩, hB.lt⟩ (fun q hq => by rw [List.mem_singleton.1 hq]; exact hl) (by rw [List.flatten_cons, List.flatten_nil, List.append_nil]; exact hr) fun k u hu => ?_)
 rw [Nat.zero_mul, Nat.zero_add, Addr.add_lit, Nat.zero_add, hB.cell k]
 simpa using hu
theorem call_any {S : Nat -> Prop} (l : List It) (n : Nat) (hn : l.length = n) (h1 : 1 <= n) (hn2 : n <= 1048576) (A : Option Addr) (c : Nat) (ahead : Bool) (w : World) (hl : ∀ i ∈ l, WdOk i) (hr : RowsV w S 3 A 0 (l.map It.row)) : Calls Tryz.prog 98 #[.slice A n c, .bool ahead] w (PCall w) := by
 have HA := hid (fun k x at_ W hx hk => arg_any k x at_ W hx hk)
 have HC := hid (fun s W => constant_any s W)
 have HR := hid (fun s W => arity_any s W)
 have hl0 : 0 < l.length := by omega
 obtain ⟨ad, rfl, _, hadl, hrow⟩ := RowsV.get hr hl0
 obtain ⟨c0, c1, c2⟩ := It.at_ hrow
 have hok0 := hl _ (List.getElem_mem hl0)
 obtain ⟨p, hp⟩ := xE l[0]
 rw [hp] at hok0 c0 c1 c2
 clear hrow hp
 obtain ⟨k, x, at_⟩ := p
 simp only [Nat.zero_mul, addr_zero] at c0 c1 c2
 have hxz : x.size <= 1048576 := hok0.1
 have HA0 := hid (HA.out k x at_ · hok0.1 hok0.2)
 have HC0 := hid (HC.out x)
 have HR0 := hid (HR.out x)
 clear hok0
 obtain ⟨W, hW⟩ := xE ((w.alloc (.cells #[.string ⟨#[]⟩, .slice none 0 0] 135)).alloc (.cells #[.int .i64 k, .string x, .int .i64 at_] 128))
 have HRs : Hid (Blk W w.heap.size 135 #[.string ⟨#[]⟩, .slice none 0 0]) := hid (by rw [<- hW]; exact (Blk.new w _ _).alloc _)
 have HW : Hid (Blk W (w.heap.size + 1) 128 #[.int .i64 k, .string x, .int .i64 at_]) := hid (by rw [<- hW]; exact Blk.new_at _ _ (by simp) _ _)
 have HbW : Hid (Below w.heap.size w W) := hid (by rw [<- hW]; go_grown)
 have HRow := hid (RowsV.below hr HbW.out)
 have Hr0 := hid hr
 obtain ⟨pt, hpt⟩ := xE w.heap.size
 have hlt2 := HW.out.lt
 have hlt1 := HRs.out.lt
 rw [hpt] at HRs HW hlt1 hlt2 hadl
 have hsz : Hid (W.heap.size = pt + 2) := hid (by rw [<- hW, <- hpt]; simp)
 have Hl := hid hl
 have Hn := hid hn
 clear hl hr hn hl0
 go_enter Tryz.func98, Tryz.ntmps98
 go_upto_region 2 with fail
 clear hW c0 c1 c2
 obtain ⟨⟨c0, c1, c2⟩, f0, f1, f2⟩ := blk3_cells HW.out
 obtain ⟨⟨d0, d1⟩, g0, g1⟩ := blk2_cells HRs.out
 go_cut [28] from 18 (fun c wx => ∃ b : Bool, c = .bool b /\ wx = W)
 case first =>
  obtain ⟨q1, hq1⟩ := xE (k != 1);go_wp2_with (go_at_call 113; refine (HC0.out _).mono ?_; rintro e w1 ⟨b, rfl, hw⟩; obtain rfl := hw)
  all_goals (
   go_meet;exact ⟨_, rfl, rfl⟩)
 obtain ⟨b, rfl, hwc⟩ := hcut
 obtain rfl := hwc
 cases b
 ·go_upto_if 63 with (go_at_call 65; refine (HR0.out _).mono ?_; rintro e w1 ⟨least, most, ok, rfl, hok, hw⟩; obtain rfl := hw)
  cases ok
  ·go_upto_region 13 with fail
   go_region_with fail
   all_goals (
    go_wp2_with fail
    (try simp only [Exit.inBlock, Exit.then]);refine rc2 pt (blk2_put HRs.out) ?_;exact PCall.zero (HbW.out.trans ((put2_below (Nat.le_of_eq hpt)).drew)))
  clear hok;obtain ⟨W0, rfl⟩ := xS w1;go_upto_region 15 with fail
  obtain ⟨w2, hw2⟩ := xE (W0.alloc (.cells #[.string x, .slice none 0 0] 135));have HR2 : Hid (Blk w2 pt 135 #[.string ⟨#[]⟩, .slice none 0 0]) := hid (by rw [<- hw2]; exact HRs.out.alloc _);have HW2 : Hid (Blk w2 (pt + 1) 128 #[.int .i64 k, .string x, .int .i64 at_]) := hid (by rw [<- hw2]; exact HW.out.alloc _);have HC2 : Hid (Blk w2 (pt + 2) 135 #[.string x, .slice none 0 0]) := hid (by rw [<- hw2]; exact Blk.new_at _ _ hsz.out _ _);have Hb2 : Hid (Below w.heap.size w w2) := hid (by rw [<- hw2]; exact HbW.out.alloc HbW.out.size _);rw [hw2];have hg2 := hsz.out;rw [hg2];clear hw2 hg2 HRs HW HbW HRow hsz c0 c1 c2 f0 f1 f2 d0 d1 g0 g1 hlt1 hlt2;have hlC := HC2.out.lt;go_wp2_with fail
  go_loopw [14] (fun i wr => ∃ (j : Nat) (aS : List Ar) (v : Value), 1 <= j /\ j <= n /\ i = .int .i64 (j : Int) /\ aS.length + 1 = j /\ (∀ a ∈ aS, ArOk 1048577 a) /\ Blk wr pt 135 #[.string ⟨#[]⟩, .slice none 0 0] /\ Blk wr (pt + 1) 128 #[.int .i64 k, .string x, .int .i64 at_] /\ Blk wr (pt + 2) 135 #[.string x, v] /\ OwnN 0 (pt + 3) wr (pt + 3) 137 5 v (aS.map Ar.row) /\ Below w.heap.size w wr /\ pt + 3 <= wr.heap.size) (fun i _ => n - (intOf i).toNat)
  case atStart => exact ⟨1, [], _, Nat.le_refl _, h1, rfl, rfl, (fun _ h => by cases h), HR2.out, HW2.out, HC2.out, OwnN.nil, Hb2.out, hlC⟩
  clear HR2 HW2 HC2 Hb2 hlC;obtain ⟨j, as_, v, hj1, hj, rfl, hjl, has, hR2, hW2, hC2, hO2, hb2, hz2⟩ := hrel;have HR2 := hid hR2;have HW2 := hid hW2;have HC2 := hid hC2;have HO2 := hid hO2;have Hb2 := hid hb2;have Has := hid has;clear hR2 hW2 hC2 hb2 has;obtain ⟨Av, cv, rfl⟩ := hO2.shape (n := as_.length) (by simp);clear hO2;by_cases hlt : j < n
  ·have hli : (j : Int) < n := by omega
   have hjl' : j < l.length := by have := Hn.out; omega
   obtain ⟨ad', hAd, _, hadl', hrow⟩ := RowsV.get (RowsV.below Hr0.out Hb2.out) hjl';cases hAd;have hok := Hl.out _ (List.getElem_mem hjl');obtain ⟨p1, hp1⟩ := xE l[j];rw [hp1] at hrow hok;obtain ⟨k1, x1, pl1⟩ := p1;obtain ⟨i0, i1, i2⟩ := It.at_ hrow;simp only at i0 i1 i2;have HA1 := hid (HA.out k1 x1 pl1 · hok.1 hok.2);have hx1z := hok.1;simp only at hx1z;clear hok hrow;go_upto_region 19 with (go_at_call 114; refine (HA1.out _).mono ?_; rintro e w3 ⟨a, vp, er, rfl, hd, hok, hb3⟩; obtain ⟨np, hnp⟩ := xE a.path.length; obtain ⟨Ap, cp, rfl, _⟩ := DtV.slice hd ((strRows_len _).trans hnp); clear i0 i1 i2)
   obtain ⟨w5, hw5⟩ := xE (w3.alloc (.cells #[.int .i64 a.k, .string a.nm, .slice Ap np cp, .int .i64 a.n, .string a.x] 137));have hbb := hb3.trans ((alloc_below w3 (.cells #[.int .i64 a.k, .string a.nm, .slice Ap np cp, .int .i64 a.n, .string a.x] 137)).mono hb3.size);have hbb5 : Below wr.heap.size wr w5 := by rw [<- hw5]; exact hbb
   have HR5 := hid (HR2.out.below hbb5 HR2.out.lt);have HW5 := hid (HW2.out.below hbb5 HW2.out.lt);have HC5 := hid (HC2.out.below hbb5 HC2.out.lt);have HO5 := hid (OwnN.below HO2.out hbb5);have HX5 : Hid (Blk w5 w3.heap.size 137 #[.int .i64 a.k, .string a.nm, .slice Ap np cp, .int .i64 a.n, .string a.x]) := hid (by rw [<- hw5]; exact Blk.new w3 _ _);have Hb5 : Hid (Below w.heap.size w w5) := hid (Hb2.out.trans (hbb5.mono Hb2.out.size));have HD5 : Hid (DtN 0 wr.heap.size w5 (.slice Ap np cp) (.rows 1 (strRows a.path))) := hid (by rw [<- hw5]; exact DtN.below hd (alloc_below _ _));have hlo := HO2.out.lt;have Hlo := hid hlo;have hs3 : w5.heap.size = w3.heap.size + 1 := by rw [<- hw5]; simp
   have hs3' := hb3.size;have Hok := hid hok;rw [hw5];obtain ⟨g5, hg5⟩ := xE w3.heap.size;rw [hg5] at HX5 hs3 hs3' ⊢;clear hw5 hbb hbb5 hd hok hb3 hg5 HR2 HW2 HC2 HO2 Hb2 hlo HA1;have Hs5 := hid hs3;obtain ⟨q, hq⟩ := xE (er != 0);cases q
   ·clear hs3;obtain ⟨⟨h0, h1'⟩, _⟩ := blk2_cells HC5.out;obtain ⟨⟨e0, e1, e2, e3, e4⟩, _⟩ := blk5_cells HX5.out;go_wp2_with (at_builtin; refine wpl_pushX rfl _ _ rfl Tryz.underlying133 info_Arg HO5.out rfl (us := [.int .i64 a.k, .string a.nm, .slice Ap np cp, .int .i64 a.n, .string a.x]) (r := a.row) (CellsV.fresh (arg_cells HD5.out) (by omega) (fun g hg => ⟨Nat.zero_le _, (Hlo.out g hg).2⟩)) rfl rfl (by rw [List.length_map]; omega) (by have := Hs5.out; omega) ?_; intro v1 w6 hO6 hb6 _ _; rw [<- List.map_singleton, <- List.map_append] at hO6; obtain ⟨A1, cv1, rfl⟩ := hO6.shape (n := j) (by simp; omega); have HO6 := hid hO6; have Hb6 := hid hb6; clear hO6 hb6; have HC6 := hid (HC5.out.below Hb6.out (by omega)); clear h0 h1' e0 e1 e2 e3 e4; obtain ⟨⟨h0, h1'⟩, j0, j1⟩ := blk2_cells HC6.out)
    refine ⟨⟨_, _, _, _, _, _, _, _, _, _, _, _, _, _, _, _, _, _, _, _, _, _, _, _, _, _, _, _, _, _, _, _, _, _, ?rel, rfl⟩, ?measure⟩;case rel =>
     have hz6 := Hb6.out.size;have hs5 := Hs5.out;have hbw6 : Below w.heap.size w w6 := Hb5.out.trans (Hb6.out.mono (by omega));refine ⟨j + 1, as_ ++ [a], _, by omega, by omega, by go_num, by simp; omega, allSnoc Has.out (Hok.out.mono (by omega)), (HR5.out.below Hb6.out (by omega)).far (p := ⟨pt + 2, 1, none⟩) (by simp) _, (HW5.out.below Hb6.out (by omega)).far (p := ⟨pt + 2, 1, none⟩) (by simp) _, HC6.out.set_ 1 _, ?_, hbw6.setCell (p := ⟨pt + 2, 1, none⟩) (by show _ <= pt + 2; omega) _, by simp; omega⟩;exact OwnN.far HO6.out (p := ⟨pt + 2, 1, none⟩) (Nat.lt_succ_self _) (Nat.zero_le _) (Nat.lt_succ_self _) _
    simp [intOf]; omega
   obtain ⟨ad', hAd, _, hadl', hrow⟩ := RowsV.get (RowsV.below Hr0.out Hb5.out) hjl';cases hAd;rw [hp1] at hrow;obtain ⟨_, _, i2⟩ := It.at_ hrow;simp only at i2;obtain ⟨⟨d0, d1⟩, g0, g1⟩ := blk2_cells HR5.out;clear hrow;go_upto_region 20 with fail
   go_region_with fail
   all_goals (
    go_wp2_with fail
    (try simp only [Exit.inBlock, Exit.then]);refine rc2 pt (blk2_put HR5.out) ?_;exact PCall.zero (Hb5.out.trans ((put2_below (Nat.le_of_eq hpt)).drew)))
  have hlf : ¬ ((j : Int) < n) := by omega
  have HD2 := hid (OwnN.dt HO2.out rfl (Nat.le_refl _));obtain ⟨⟨_, h1'⟩, _⟩ := blk2_cells HC2.out;go_upto_if 102 with fail
  clear h1' hlf hlt;go_cut [17] from 18 (fun c wx => ∃ nn : Int, c = .int .i64 nn /\ wx = wr)
  case first =>
   cases ahead
   all_goals (
    go_wp2_with fail
    go_meet;exact ⟨_, rfl, rfl⟩)
  obtain ⟨nn, rfl, hwc⟩ := hcut;obtain rfl := hwc;go_upto_region 25 with fail
  obtain ⟨W9, rfl⟩ := xS wc;go_cut [112] from 18 (fun c wx => ∃ b : Bool, c = .bool b /\ wx = W9)
  case first =>
   go_wp2_with fail
   all_goals (
    go_meet;exact ⟨_, rfl, rfl⟩)
  obtain ⟨b, rfl, hwc⟩ := hcut;obtain rfl := hwc;obtain ⟨⟨d0, d1⟩, g0, g1⟩ := blk2_cells HR2.out;cases b
  ·obtain ⟨⟨h0, h1'⟩, _⟩ := blk2_cells HC2.out;go_wp2_with fail
   (try simp only [Exit.inBlock, Exit.then]);refine rc2 pt (blk2_put HR2.out) ?_;exact ⟨⟨x, as_⟩, _, _, _, rfl, DtN.up (dtn_put2 HD2.out (Nat.zero_le _) (by omega)) (Nat.le_refl _) (by omega), ⟨by show as_.length <= _; omega, Has.out⟩, Hb2.out.trans (put2_below (Nat.le_of_eq hpt))⟩
  obtain ⟨⟨_, _, c2⟩, _⟩ := blk3_cells HW2.out;go_upto_region 26 with fail
  go_region_with fail
  all_goals (
   go_wp2_with fail
   (try simp only [Exit.inBlock, Exit.then]);refine rc2 pt (blk2_put HR2.out) ?_;exact PCall.zero (Hb2.out.trans ((put2_below (Nat.le_of_eq hpt)).drew)))
 cases ahead
 ·go_upto_region 6 with (go_at_call 114; refine (HA0.out _).mono ?_; rintro e w1 ⟨a, vp, er, rfl, hd, hok, hb1⟩; obtain ⟨np, hnp⟩ := xE a.path.length; obtain ⟨Ap, cp, rfl, _⟩ := DtV.slice hd ((strRows_len _).trans hnp); clear c0 c1 c2 f0 f1 f2 d0 d1 g0 g1)
  obtain ⟨w2, hw2⟩ := xE (w1.alloc (.cells #[.int .i64 a.k, .string a.nm, .slice Ap np cp, .int .i64 a.n, .string a.x] 137));have HR2 : Hid (Blk w2 pt 135 #[.string ⟨#[]⟩, .slice none 0 0]) := hid (by rw [<- hw2]; exact (HRs.out.below hb1 hlt1).alloc _);have HW2 : Hid (Blk w2 (pt + 1) 128 #[.int .i64 k, .string x, .int .i64 at_]) := hid (by rw [<- hw2]; exact (HW.out.below hb1 hlt2).alloc _);have HX2 : Hid (Blk w2 w1.heap.size 137 #[.int .i64 a.k, .string a.nm, .slice Ap np cp, .int .i64 a.n, .string a.x]) := hid (by rw [<- hw2]; exact Blk.new w1 _ _);have hbb := hb1.trans ((alloc_below w1 (.cells #[.int .i64 a.k, .string a.nm, .slice Ap np cp, .int .i64 a.n, .string a.x] 137)).mono hb1.size);have Hb2 : Hid (Below w.heap.size w w2) := hid (by rw [<- hw2]; exact HbW.out.trans (hbb.mono HbW.out.size));have HD2 : Hid (DtN 0 wc.heap.size w2 (.slice Ap np cp) (.rows 1 (strRows a.path))) := hid (by rw [<- hw2]; exact DtN.below hd (alloc_below _ _));have HRw2 := hid (RowsV.below HRow.out (by rw [<- hw2]; exact hbb : Below wc.heap.size wc w2));have hsb := hb1.size;have Hok := hid hok;have hl2 := HR2.out.lt;rw [hw2];obtain ⟨g5, hg5⟩ := xE w1.heap.size;rw [hg5] at HX2 hsb ⊢;clear hw2 hbb hd hok hb1 hg5 HRs HW HbW HRow hsz;obtain ⟨⟨d0, d1⟩, g0, g1⟩ := blk2_cells HR2.out;obtain ⟨q, hq⟩ := xE (er != 0);cases q
  ·by_cases hn1 : n = 1
   ·have hn1i : ((1 : Int) < (n : Int)) = False := by rw [hn1]; simp
    obtain ⟨⟨e0, e1, e2, e3, e4⟩, _⟩ := blk5_cells HX2.out;go_wp2_with fail
    (try simp only [Exit.inBlock, Exit.then]);refine rc2 pt ((blk2_put HR2.out).alloc _) ?_;refine ⟨⟨⟨#[]⟩, [a]⟩, _, _, _, rfl, ?_, ⟨by simp, fun y hy => by rw [List.mem_singleton.1 hy]; exact Hok.out.mono (by omega)⟩, ?_⟩
    ·refine DtN.up (lo := pt + 1) (DtN.one_row (us := [.int .i64 a.k, .string a.nm, .slice Ap np cp, .int .i64 a.n, .string a.x]) (Blk.new_at _ _ (by simp) _ _) rfl (by omega) (CellsN.below (arg_cells (dtn_put2 (DtN.up HD2.out (Nat.le_refl _) (by omega)) (Nat.zero_le _) (Nat.lt_succ_self _))) (alloc_below _ _)) rfl) (Nat.le_refl _) (by omega)
    have hbp := Hb2.out.trans (put2_below (v0 := .string ⟨#[]⟩) (v1 := .slice (some ⟨w2.heap.size, 0, none⟩) 1 1) (Nat.le_of_eq hpt));exact hbp.alloc hbp.size _
   have hn1i : (1 : Int) < (n : Int) := by omega
   have hl1 : 1 < l.length := by have := Hn.out; omega
   obtain ⟨ad', hAd, _, hadl', hrow⟩ := RowsV.get HRw2.out hl1;cases hAd;obtain ⟨p1, hp1⟩ := xE l[1];rw [hp1] at hrow;obtain ⟨k1, x1, pl1⟩ := p1;obtain ⟨i0, i1, i2⟩ := It.at_ hrow;simp only at i0 i1 i2;have i2a : w2.cell? ⟨ad.block, ad.off + 5, none⟩ = some (.int .i64 pl1) := by simpa [Addr.add, Nat.add_assoc] using i2
   have i2b : w2.cell? ⟨ad.block, ad.off + 3 + 2, none⟩ = some (.int .i64 pl1) := by simpa [Addr.add, Nat.add_assoc] using i2
   simp only [Nat.one_mul] at i0 i1 i2;clear hrow hp1;go_upto_region 9 with fail
   go_region_with fail
   all_goals (
    go_wp2_with fail
    (try simp only [Exit.inBlock, Exit.then]);refine rc2 pt (blk2_put HR2.out) ?_;exact PCall.zero (Hb2.out.trans ((put2_below (Nat.le_of_eq hpt)).drew)))
  obtain ⟨⟨_, _, c2⟩, _⟩ := blk3_cells HW2.out;go_upto_region 7 with fail
  go_region_with fail
  all_goals (
   go_wp2_with fail
   (try simp only [Exit.inBlock, Exit.then]);refine rc2 pt (blk2_put HR2.out) ?_;exact PCall.zero (Hb2.out.trans ((put2_below (Nat.le_of_eq hpt)).drew)))
 go_upto_region 4 with fail
 go_region_with fail
 all_goals (
  go_wp2_with fail
  (try simp only [Exit.inBlock, Exit.then]);refine rc2 pt (blk2_put HRs.out) ?_;exact PCall.zero (HbW.out.trans ((put2_below (Nat.le_of_eq hpt)).drew)))
end Go.Proofs.YtkcnmjdomipbjaaGreat
