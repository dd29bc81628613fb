import Derived.Test.YtkcnmjdomipbjaaGreatS31
import Derived.Test.YtkcnmjdomipbjaaGreatS35
import Derived.Test.YtkcnmjdomipbjaaGreatS36
set_option linter.unusedVariables false
set_option maxHeartbeats 100000000
set_option maxRecDepth 100000
namespace Go.Proofs.YtkcnmjdomipbjaaGreat
open Go.RowKit
theorem step_any (k : Int) (el at_ : ByteArray) (dl : Int) (pe rf : ByteArray) (pa : Int) (wd : ByteArray) (c : Int) (h0 : 0 <= c) (h1 : c <= 255) (w : World) (hok : StOk 1048576 el at_ pe rf wd) : Calls Tryz.prog 75 #[.agg #[.int .i64 k, .string el, .string at_, .int .u8 dl, .string pe, .string rf, .int .i64 pa, .string wd], .int .u8 c] w (PSt 41 w) := by
 have HK := hid (fun W => check13_any k el at_ dl pe rf pa wd W hok)
 have HO := hid (fun h W => outside_any k el at_ dl pe rf pa wd c h0 h1 40 W (by omega) (by omega) h)
 have HT := hid (fun h a b W => tag_any k el at_ dl pe rf pa wd c h0 h1 40 W (by omega) (by omega) h a b)
 have HA := hid (fun h W => raw_any k el at_ dl pe rf pa wd c h0 h1 40 W (by omega) (by omega) h)
 obtain ⟨W, hW⟩ := xE ((w.alloc (.cells #[.int .i64 k, .string el, .string at_, .int .u8 dl, .string pe, .string rf, .int .i64 pa, .string wd] 32)).alloc (.cells #[.int .i64 0, .string ⟨#[]⟩, .string ⟨#[]⟩, .int .u8 0, .string ⟨#[]⟩, .string ⟨#[]⟩, .int .i64 0, .string ⟨#[]⟩] 32))
 have HS : Hid (Blk W w.heap.size 32 #[.int .i64 k, .string el, .string at_, .int .u8 dl, .string pe, .string rf, .int .i64 pa, .string wd]) := hid (by rw [<- hW]; exact (Blk.new w _ _).alloc _)
 have HR : Hid (Blk W (w.heap.size + 1) 32 #[.int .i64 0, .string ⟨#[]⟩, .string ⟨#[]⟩, .int .u8 0, .string ⟨#[]⟩, .string ⟨#[]⟩, .int .i64 0, .string ⟨#[]⟩]) := hid (by rw [<- hW]; exact Blk.new_at _ _ (by simp) _ _)
 have HbW : Hid (Below w.heap.size w W) := hid (by rw [<- hW]; go_grown)
 obtain ⟨pt, hpt⟩ := xE w.heap.size
 have hlt2 := HR.out.lt
 have hlt1 := HS.out.lt
 rw [hpt] at HS HR hlt1 hlt2
 have hsz : Hid (W.heap.size = pt + 2) := hid (by rw [<- hW, <- hpt]; simp)
 obtain ⟨⟨c0, c1, c2, c3, c4, c5, c6, c7⟩, f0, f1, f2, f3, f4, f5, f6, f7⟩ := st_cells HS.out
 go_enter Tryz.func75, Tryz.ntmps75
 go_upto_region 2 with (go_at_call 74; refine (HK.out _).mono ?_; rintro e w1 ⟨r, rfl, hr, hb1⟩; clear c0 c1 c2 c3 c4 c5 c6 c7 f0 f1 f2 f3 f4 f5 f6 f7)
 clear hW
 have Hr := hid hr
 clear hr
 have HS1 := hid (HS.out.below hb1 hlt1)
 have HR1 := hid (HR.out.below hb1 hlt2)
 have Hb1 : Hid (Below w.heap.size w w1) := hid (HbW.out.trans (hb1.mono HbW.out.size))
 clear HS HR HbW hb1 hsz hlt1 hlt2
 have hl1 := HS1.out.lt
 have hl2 := HR1.out.lt
 obtain ⟨q, hq⟩ := xE (r != 0)
 cases q
 ·have Hok := hid (Hr.out (by simpa using hq));clear Hr;obtain ⟨⟨c0, c1, c2, c3, c4, c5, c6, c7⟩, f0, f1, f2, f3, f4, f5, f6, f7⟩ := st_cells HS1.out;go_upto_region 6 with fail
  obtain ⟨w2, hw2⟩ := xE (w1.alloc (.cells #[.int .i64 k, .string el, .string at_, .int .u8 dl, .string pe, .string rf, .int .i64 pa, .string wd] 32));have HS2 : Hid (Blk w2 pt 32 #[.int .i64 k, .string el, .string at_, .int .u8 dl, .string pe, .string rf, .int .i64 pa, .string wd]) := hid (by rw [<- hw2]; exact HS1.out.alloc _);have HR2 : Hid (Blk w2 (pt + 1) 32 #[.int .i64 0, .string ⟨#[]⟩, .string ⟨#[]⟩, .int .u8 0, .string ⟨#[]⟩, .string ⟨#[]⟩, .int .i64 0, .string ⟨#[]⟩]) := hid (by rw [<- hw2]; exact HR1.out.alloc _);have HX2 : Hid (Blk w2 w1.heap.size 32 #[.int .i64 k, .string el, .string at_, .int .u8 dl, .string pe, .string rf, .int .i64 pa, .string wd]) := hid (by rw [<- hw2]; exact Blk.new w1 _ _);have Hb2 : Hid (Below w.heap.size w w2) := hid (by rw [<- hw2]; exact Hb1.out.alloc Hb1.out.size _);have hne : Hid (¬ (pt + 1 = w1.heap.size)) := hid (by omega);rw [hw2];obtain ⟨gx, hgx⟩ := xE w1.heap.size;have hxx : pt <= gx := by omega
  rw [hgx] at HX2 hne ⊢;clear c0 c1 c2 c3 c4 c5 c6 c7 f0 f1 f2 f3 f4 f5 f6 f7;clear hw2 HS1 HR1 Hb1 hl1 hl2 hgx;have hl1 := HS2.out.lt;have hl2 := HR2.out.lt;have hlx := HX2.out.lt;obtain ⟨⟨c0, c1, c2, c3, c4, c5, c6, c7⟩, f0, f1, f2, f3, f4, f5, f6, f7⟩ := st_cells HS2.out;by_cases k3 : k < 3
  ·go_upto_region 10 with (go_at_call 99; refine (HO.out Hok.out _).mono ?_; rintro e w3 ⟨k2, el2, at2, dl2, pe2, rf2, pa2, wd2, er, rfl, ok2, hb3⟩; have HS3 := hid (HS2.out.below hb3 hl1); have HR3 := hid (HR2.out.below hb3 hl2); have HX3 := hid (HX2.out.below hb3 hlx); have Hb3 : Hid (Below w.heap.size w w3) := hid (Hb2.out.trans (hb3.mono Hb2.out.size)); clear c0 c1 c2 c3 c4 c5 c6 c7 f0 f1 f2 f3 f4 f5 f6 f7; obtain ⟨⟨e0, e1, e2, e3, e4, e5, e6, e7⟩, i0, i1, i2, i3, i4, i5, i6, i7⟩ := st_cells HX3.out)
   obtain ⟨w4, hw4⟩ := xE ((((((((w3.setCell ⟨gx, 0, none⟩ (.int .i64 k2)).setCell ⟨gx, 1, none⟩ (.string el2)).setCell ⟨gx, 2, none⟩ (.string at2)).setCell ⟨gx, 3, none⟩ (.int .u8 dl2)).setCell ⟨gx, 4, none⟩ (.string pe2)).setCell ⟨gx, 5, none⟩ (.string rf2)).setCell ⟨gx, 6, none⟩ (.int .i64 pa2)).setCell ⟨gx, 7, none⟩ (.string wd2));have HX4 : Hid (Blk w4 gx 32 #[.int .i64 k2, .string el2, .string at2, .int .u8 dl2, .string pe2, .string rf2, .int .i64 pa2, .string wd2]) := hid (by rw [<- hw4]; exact st_put HX3.out);have HR4 : Hid (Blk w4 (pt + 1) 32 #[.int .i64 0, .string ⟨#[]⟩, .string ⟨#[]⟩, .int .u8 0, .string ⟨#[]⟩, .string ⟨#[]⟩, .int .i64 0, .string ⟨#[]⟩]) := hid (by rw [<- hw4]; exact st_far HR3.out hne.out);have Hb4 : Hid (Below w.heap.size w w4) := hid (by rw [<- hw4]; exact Hb3.out.trans (st_put_below (by omega)));rw [hw4];clear hw4 HX3 HR3 HS3 Hb3 hb3 e0 e1 e2 e3 e4 e5 e6 e7 i0 i1 i2 i3 i4 i5 i6 i7;obtain ⟨⟨d0, d1, d2, d3, d4, d5, d6, d7⟩, g0, g1, g2, g3, g4, g5, g6, g7⟩ := st_cells HR4.out;obtain ⟨⟨c0, c1, c2, c3, c4, c5, c6, c7⟩, f0, f1, f2, f3, f4, f5, f6, f7⟩ := st_cells HX4.out;obtain ⟨q3, hq3⟩ := xE (er != 0);cases q3
   ·go_wp2
    (try simp only [Exit.inBlock, Exit.then]);refine rc1 (pt + 1) (st_put HR4.out) ?_;exact ⟨_, _, _, _, _, _, _, _, _, rfl, ok2, Hb4.out.trans (st_put_below (by omega))⟩
   go_wp2
   (try simp only [Exit.inBlock, Exit.then]);refine rc1 (pt + 1) (st_put HR4.out) ?_;exact ⟨_, _, _, _, _, _, _, _, _, rfl, st_zero, Hb4.out.trans (st_put_below (by omega))⟩
  by_cases k13 : k < 13
  ·go_upto_region 10 with (go_at_call 100; refine (HT.out Hok.out (by omega) (by omega) _).mono ?_; rintro e w3 ⟨k2, el2, at2, dl2, pe2, rf2, pa2, wd2, er, rfl, ok2, hb3⟩; have HS3 := hid (HS2.out.below hb3 hl1); have HR3 := hid (HR2.out.below hb3 hl2); have HX3 := hid (HX2.out.below hb3 hlx); have Hb3 : Hid (Below w.heap.size w w3) := hid (Hb2.out.trans (hb3.mono Hb2.out.size)); clear c0 c1 c2 c3 c4 c5 c6 c7 f0 f1 f2 f3 f4 f5 f6 f7; obtain ⟨⟨e0, e1, e2, e3, e4, e5, e6, e7⟩, i0, i1, i2, i3, i4, i5, i6, i7⟩ := st_cells HX3.out)
   obtain ⟨w4, hw4⟩ := xE ((((((((w3.setCell ⟨gx, 0, none⟩ (.int .i64 k2)).setCell ⟨gx, 1, none⟩ (.string el2)).setCell ⟨gx, 2, none⟩ (.string at2)).setCell ⟨gx, 3, none⟩ (.int .u8 dl2)).setCell ⟨gx, 4, none⟩ (.string pe2)).setCell ⟨gx, 5, none⟩ (.string rf2)).setCell ⟨gx, 6, none⟩ (.int .i64 pa2)).setCell ⟨gx, 7, none⟩ (.string wd2));have HX4 : Hid (Blk w4 gx 32 #[.int .i64 k2, .string el2, .string at2, .int .u8 dl2, .string pe2, .string rf2, .int .i64 pa2, .string wd2]) := hid (by rw [<- hw4]; exact st_put HX3.out);have HR4 : Hid (Blk w4 (pt + 1) 32 #[.int .i64 0, .string ⟨#[]⟩, .string ⟨#[]⟩, .int .u8 0, .string ⟨#[]⟩, .string ⟨#[]⟩, .int .i64 0, .string ⟨#[]⟩]) := hid (by rw [<- hw4]; exact st_far HR3.out hne.out);have Hb4 : Hid (Below w.heap.size w w4) := hid (by rw [<- hw4]; exact Hb3.out.trans (st_put_below (by omega)));rw [hw4];clear hw4 HX3 HR3 HS3 Hb3 hb3 e0 e1 e2 e3 e4 e5 e6 e7 i0 i1 i2 i3 i4 i5 i6 i7;obtain ⟨⟨d0, d1, d2, d3, d4, d5, d6, d7⟩, g0, g1, g2, g3, g4, g5, g6, g7⟩ := st_cells HR4.out;obtain ⟨⟨c0, c1, c2, c3, c4, c5, c6, c7⟩, f0, f1, f2, f3, f4, f5, f6, f7⟩ := st_cells HX4.out;obtain ⟨q3, hq3⟩ := xE (er != 0);cases q3
   ·go_wp2
    (try simp only [Exit.inBlock, Exit.then]);refine rc1 (pt + 1) (st_put HR4.out) ?_;exact ⟨_, _, _, _, _, _, _, _, _, rfl, ok2, Hb4.out.trans (st_put_below (by omega))⟩
   go_wp2
   (try simp only [Exit.inBlock, Exit.then]);refine rc1 (pt + 1) (st_put HR4.out) ?_;exact ⟨_, _, _, _, _, _, _, _, _, rfl, st_zero, Hb4.out.trans (st_put_below (by omega))⟩
  by_cases k17 : k <= 16
  ·have hk13 : 13 <= k := by omega
   go_upto_region 10 with (go_at_call 99; refine (HO.out Hok.out _).mono ?_; rintro e w3 ⟨k2, el2, at2, dl2, pe2, rf2, pa2, wd2, er, rfl, ok2, hb3⟩; have HS3 := hid (HS2.out.below hb3 hl1); have HR3 := hid (HR2.out.below hb3 hl2); have HX3 := hid (HX2.out.below hb3 hlx); have Hb3 : Hid (Below w.heap.size w w3) := hid (Hb2.out.trans (hb3.mono Hb2.out.size)); clear c0 c1 c2 c3 c4 c5 c6 c7 f0 f1 f2 f3 f4 f5 f6 f7; obtain ⟨⟨e0, e1, e2, e3, e4, e5, e6, e7⟩, i0, i1, i2, i3, i4, i5, i6, i7⟩ := st_cells HX3.out)
   obtain ⟨w4, hw4⟩ := xE ((((((((w3.setCell ⟨gx, 0, none⟩ (.int .i64 k2)).setCell ⟨gx, 1, none⟩ (.string el2)).setCell ⟨gx, 2, none⟩ (.string at2)).setCell ⟨gx, 3, none⟩ (.int .u8 dl2)).setCell ⟨gx, 4, none⟩ (.string pe2)).setCell ⟨gx, 5, none⟩ (.string rf2)).setCell ⟨gx, 6, none⟩ (.int .i64 pa2)).setCell ⟨gx, 7, none⟩ (.string wd2));have HX4 : Hid (Blk w4 gx 32 #[.int .i64 k2, .string el2, .string at2, .int .u8 dl2, .string pe2, .string rf2, .int .i64 pa2, .string wd2]) := hid (by rw [<- hw4]; exact st_put HX3.out);have HR4 : Hid (Blk w4 (pt + 1) 32 #[.int .i64 0, .string ⟨#[]⟩, .string ⟨#[]⟩, .int .u8 0, .string ⟨#[]⟩, .string ⟨#[]⟩, .int .i64 0, .string ⟨#[]⟩]) := hid (by rw [<- hw4]; exact st_far HR3.out hne.out);have Hb4 : Hid (Below w.heap.size w w4) := hid (by rw [<- hw4]; exact Hb3.out.trans (st_put_below (by omega)));rw [hw4];clear hw4 HX3 HR3 HS3 Hb3 hb3 e0 e1 e2 e3 e4 e5 e6 e7 i0 i1 i2 i3 i4 i5 i6 i7;obtain ⟨⟨d0, d1, d2, d3, d4, d5, d6, d7⟩, g0, g1, g2, g3, g4, g5, g6, g7⟩ := st_cells HR4.out;obtain ⟨⟨c0, c1, c2, c3, c4, c5, c6, c7⟩, f0, f1, f2, f3, f4, f5, f6, f7⟩ := st_cells HX4.out;obtain ⟨q3, hq3⟩ := xE (er != 0);cases q3
   ·go_wp2
    (try simp only [Exit.inBlock, Exit.then]);refine rc1 (pt + 1) (st_put HR4.out) ?_;exact ⟨_, _, _, _, _, _, _, _, _, rfl, ok2, Hb4.out.trans (st_put_below (by omega))⟩
   go_wp2
   (try simp only [Exit.inBlock, Exit.then]);refine rc1 (pt + 1) (st_put HR4.out) ?_;exact ⟨_, _, _, _, _, _, _, _, _, rfl, st_zero, Hb4.out.trans (st_put_below (by omega))⟩
  have hk13 : 13 <= k := by omega
  go_upto_region 10 with (go_at_call 101; refine (HA.out Hok.out _).mono ?_; rintro e w3 ⟨k2, el2, at2, dl2, pe2, rf2, pa2, wd2, er, rfl, ok2, hb3⟩; have HS3 := hid (HS2.out.below hb3 hl1); have HR3 := hid (HR2.out.below hb3 hl2); have HX3 := hid (HX2.out.below hb3 hlx); have Hb3 : Hid (Below w.heap.size w w3) := hid (Hb2.out.trans (hb3.mono Hb2.out.size)); clear c0 c1 c2 c3 c4 c5 c6 c7 f0 f1 f2 f3 f4 f5 f6 f7; obtain ⟨⟨e0, e1, e2, e3, e4, e5, e6, e7⟩, i0, i1, i2, i3, i4, i5, i6, i7⟩ := st_cells HX3.out)
  obtain ⟨w4, hw4⟩ := xE ((((((((w3.setCell ⟨gx, 0, none⟩ (.int .i64 k2)).setCell ⟨gx, 1, none⟩ (.string el2)).setCell ⟨gx, 2, none⟩ (.string at2)).setCell ⟨gx, 3, none⟩ (.int .u8 dl2)).setCell ⟨gx, 4, none⟩ (.string pe2)).setCell ⟨gx, 5, none⟩ (.string rf2)).setCell ⟨gx, 6, none⟩ (.int .i64 pa2)).setCell ⟨gx, 7, none⟩ (.string wd2));have HX4 : Hid (Blk w4 gx 32 #[.int .i64 k2, .string el2, .string at2, .int .u8 dl2, .string pe2, .string rf2, .int .i64 pa2, .string wd2]) := hid (by rw [<- hw4]; exact st_put HX3.out);have HR4 : Hid (Blk w4 (pt + 1) 32 #[.int .i64 0, .string ⟨#[]⟩, .string ⟨#[]⟩, .int .u8 0, .string ⟨#[]⟩, .string ⟨#[]⟩, .int .i64 0, .string ⟨#[]⟩]) := hid (by rw [<- hw4]; exact st_far HR3.out hne.out);have Hb4 : Hid (Below w.heap.size w w4) := hid (by rw [<- hw4]; exact Hb3.out.trans (st_put_below (by omega)));rw [hw4];clear hw4 HX3 HR3 HS3 Hb3 hb3 e0 e1 e2 e3 e4 e5 e6 e7 i0 i1 i2 i3 i4 i5 i6 i7;obtain ⟨⟨d0, d1, d2, d3, d4, d5, d6, d7⟩, g0, g1, g2, g3, g4, g5, g6, g7⟩ := st_cells HR4.out;obtain ⟨⟨c0, c1, c2, c3, c4, c5, c6, c7⟩, f0, f1, f2, f3, f4, f5, f6, f7⟩ := st_cells HX4.out;obtain ⟨q3, hq3⟩ := xE (er != 0);cases q3
  ·go_wp2
   (try simp only [Exit.inBlock, Exit.then]);refine rc1 (pt + 1) (st_put HR4.out) ?_;exact ⟨_, _, _, _, _, _, _, _, _, rfl, ok2, Hb4.out.trans (st_put_below (by omega))⟩
  go_wp2
  (try simp only [Exit.inBlock, Exit.then]);refine rc1 (pt + 1) (st_put HR4.out) ?_;exact ⟨_, _, _, _, _, _, _, _, _, rfl, st_zero, Hb4.out.trans (st_put_below (by omega))⟩
 obtain ⟨⟨d0, d1, d2, d3, d4, d5, d6, d7⟩, g0, g1, g2, g3, g4, g5, g6, g7⟩ := st_cells HR1.out
 go_wp2
 (try simp only [Exit.inBlock, Exit.then])
 refine rc1 (pt + 1) (st_put HR1.out) ?_
 exact ⟨_, _, _, _, _, _, _, _, _, rfl, st_zero, Hb1.out.trans (st_put_below (by omega))⟩
def PSI (m : Nat) (w : World) (e : Ending) (w' : World) : Prop := ∃ (k : Int) (el at_ : ByteArray) (dl : Int) (pe rf : ByteArray) (pa : Int) (wd : ByteArray) (n er : Int), e = .returned (.tuple #[.agg #[.int .i64 k, .string el, .string at_, .int .u8 dl, .string pe, .string rf, .int .i64 pa, .string wd], .int .i64 n, .int .i64 er]) /\ StOk m el at_ pe rf wd /\ Below w.heap.size w w'
theorem feed17_any (k : Int) (el at_ : ByteArray) (dl : Int) (pe rf : ByteArray) (pa : Int) (wd : ByteArray) (t : ByteArray) (m : Nat) (w : World) (hm : 41 <= m) (hm2 : m <= 1048576) (ht : t.size <= 1099511627775) (hok : StOk m el at_ pe rf wd) : Calls Tryz.prog 60 #[.agg #[.int .i64 k, .string el, .string at_, .int .u8 dl, .string pe, .string rf, .int .i64 pa, .string wd], .string t] w (PSI m w) := by
 have HK := hid (fun W => check13_any k el at_ dl pe rf pa wd W (hok.mono hm2))
 have HT := hid (fun k el at_ dl pe rf pa wd c h0 h1 h W => step_any k el at_ dl pe rf pa wd c h0 h1 W (StOk.mono h hm2))
 have Hok := hid hok
 clear hok
 obtain ⟨W, hW⟩ := xE ((w.alloc (.cells #[.int .i64 k, .string el, .string at_, .int .u8 dl, .string pe, .string rf, .int .i64 pa, .string wd] 32)).alloc (.cells #[.int .i64 0, .string ⟨#[]⟩, .string ⟨#[]⟩, .int .u8 0, .string ⟨#[]⟩, .string ⟨#[]⟩, .int .i64 0, .string ⟨#[]⟩] 32))
 have HS : Hid (Blk W w.heap.size 32 #[.int .i64 k, .string el, .string at_, .int .u8 dl, .string pe, .string rf, .int .i64 pa, .string wd]) := hid (by rw [<- hW]; exact (Blk.new w _ _).alloc _)
 have HR : Hid (Blk W (w.heap.size + 1) 32 #[.int .i64 0, .string ⟨#[]⟩, .string ⟨#[]⟩, .int .u8 0, .string ⟨#[]⟩, .string ⟨#[]⟩, .int .i64 0, .string ⟨#[]⟩]) := hid (by rw [<- hW]; exact Blk.new_at _ _ (by simp) _ _)
 have HbW : Hid (Below w.heap.size w W) := hid (by rw [<- hW]; go_grown)
 obtain ⟨pt, hpt⟩ := xE w.heap.size
 have hlt2 := HR.out.lt
 have hlt1 := HS.out.lt
 rw [hpt] at HS HR hlt1 hlt2
 have hsz : Hid (W.heap.size = pt + 2) := hid (by rw [<- hW, <- hpt]; simp)
 obtain ⟨⟨c0, c1, c2, c3, c4, c5, c6, c7⟩, f0, f1, f2, f3, f4, f5, f6, f7⟩ := st_cells HS.out
 go_enter Tryz.func60, Tryz.ntmps60
 go_upto_region 2 with (go_at_call 74; refine (HK.out _).mono ?_; rintro e w1 ⟨r, rfl, hr, hb1⟩; clear c0 c1 c2 c3 c4 c5 c6 c7 f0 f1 f2 f3 f4 f5 f6 f7)
 clear hW hr
 have HS1 := hid (HS.out.below hb1 hlt1)
 have HR1 := hid (HR.out.below hb1 hlt2)
 have Hb1 : Hid (Below w.heap.size w w1) := hid (HbW.out.trans (hb1.mono HbW.out.size))
 clear HS HR HbW hb1 hsz hlt1 hlt2 HK
 have hl1 := HS1.out.lt
 have hl2 := HR1.out.lt
 obtain ⟨q, hq⟩ := xE (r != 0)
 cases q
 ·go_wp2_with fail
  go_loopw [7, 8] (fun e i wr => ∃ (j : Nat) (er : Int), j <= t.size /\ i = .int .i64 (j : Int) /\ e = .int .i64 er /\ MidSt m w pt wr) (fun _ i _ => t.size - (intOf i).toNat)
  case atStart => exact ⟨0, r, Nat.zero_le _, rfl, rfl, _, _, _, _, _, _, _, _, Hok.out, HS1.out, HR1.out, Hb1.out⟩
  obtain ⟨j, er, hj, rfl, rfl, k2, el2, at2, dl2, pe2, rf2, pa2, wd2, ok2, hs2, hr2, hb2⟩ := hrel;have HS2 := hid hs2;have HR2 := hid hr2;have Hb2 := hid hb2;clear hs2 hr2 hb2 HS1 HR1 Hb1 hl1 hl2;have hl1 := HS2.out.lt;have hl2 := HR2.out.lt;obtain ⟨⟨c0, c1, c2, c3, c4, c5, c6, c7⟩, f0, f1, f2, f3, f4, f5, f6, f7⟩ := st_cells HS2.out;by_cases hlt : j < t.size
  ·have hli : (j : Int) < t.size := by omega
   obtain ⟨n1, hn1, hn0, hn255⟩ := u8b t j hlt;have A1 := hid (HT.out k2 el2 at2 dl2 pe2 rf2 pa2 wd2 n1 hn0 hn255 ok2);go_upto_region 7 with fail
   go_region_with (go_at_call 75; refine (A1.out _).mono ?_; rintro e w3 ⟨k3, el3, at3, dl3, pe3, rf3, pa3, wd3, er3, rfl, ok3, hb3⟩; have HS3 := hid (HS2.out.drew.below hb3 hl1); have HR3 := hid (HR2.out.drew.below hb3 hl2); have Hb3 : Hid (Below w.heap.size w w3) := hid (Hb2.out.drew.trans (hb3.mono (by simpa using Hb2.out.size))); clear c0 c1 c2 c3 c4 c5 c6 c7 f0 f1 f2 f3 f4 f5 f6 f7; obtain ⟨⟨c0, c1, c2, c3, c4, c5, c6, c7⟩, f0, f1, f2, f3, f4, f5, f6, f7⟩ := st_cells HS3.out)
   all_goals (
    obtain ⟨w4, hw4⟩ := xE ((((((((w3.setCell ⟨pt, 0, none⟩ (.int .i64 k3)).setCell ⟨pt, 1, none⟩ (.string el3)).setCell ⟨pt, 2, none⟩ (.string at3)).setCell ⟨pt, 3, none⟩ (.int .u8 dl3)).setCell ⟨pt, 4, none⟩ (.string pe3)).setCell ⟨pt, 5, none⟩ (.string rf3)).setCell ⟨pt, 6, none⟩ (.int .i64 pa3)).setCell ⟨pt, 7, none⟩ (.string wd3));have HS4 : Hid (Blk w4 pt 32 #[.int .i64 k3, .string el3, .string at3, .int .u8 dl3, .string pe3, .string rf3, .int .i64 pa3, .string wd3]) := hid (by rw [<- hw4]; exact st_put HS3.out);have HR4 : Hid (Blk w4 (pt + 1) 32 #[.int .i64 0, .string ⟨#[]⟩, .string ⟨#[]⟩, .int .u8 0, .string ⟨#[]⟩, .string ⟨#[]⟩, .int .i64 0, .string ⟨#[]⟩]) := hid (by rw [<- hw4]; exact st_far HR3.out (by omega));have Hb4 : Hid (Below w.heap.size w w4) := hid (by rw [<- hw4]; exact Hb3.out.trans (st_put_below (by omega)));rw [hw4];clear c0 c1 c2 c3 c4 c5 c6 c7 f0 f1 f2 f3 f4 f5 f6 f7;clear hw4 HS3 HR3 Hb3 hb3 HS2 HR2 Hb2;obtain ⟨q3, hq3⟩ := xE (er3 != 0);obtain ⟨⟨d0, d1, d2, d3, d4, d5, d6, d7⟩, g0, g1, g2, g3, g4, g5, g6, g7⟩ := st_cells HR4.out;cases q3
    ·go_wp2_with fail
     go_roundw
     case rel => exact ⟨j + 1, er3, by omega, by go_num, rfl, _, _, _, _, _, _, _, _, ok3.mono hm, HS4.out, HR4.out, Hb4.out⟩
     simp [intOf]; omega
    go_wp2_with fail
    (try simp only [Exit.inBlock, Exit.then]);refine rc2 (pt + 1) (st_put HR4.out) ?_;exact ⟨_, _, _, _, _, _, _, _, _, _, rfl, st_zero, Hb4.out.trans (st_put_below (by omega))⟩)
  obtain rfl : j = t.size := by omega
  obtain ⟨⟨d0, d1, d2, d3, d4, d5, d6, d7⟩, g0, g1, g2, g3, g4, g5, g6, g7⟩ := st_cells HR2.out;go_wp2_with fail
  (try simp only [Exit.inBlock, Exit.then]);refine rc2 (pt + 1) (st_put HR2.out) ?_;exact ⟨_, _, _, _, _, _, _, _, _, _, rfl, ok2, Hb2.out.trans (st_put_below (by omega))⟩
 obtain ⟨⟨d0, d1, d2, d3, d4, d5, d6, d7⟩, g0, g1, g2, g3, g4, g5, g6, g7⟩ := st_cells HR1.out
 go_wp2
 (try simp only [Exit.inBlock, Exit.then])
 refine rc2 (pt + 1) (st_put HR1.out) ?_
 exact ⟨_, _, _, _, _, _, _, _, _, _, rfl, st_zero, Hb1.out.trans (st_put_below (by omega))⟩
end Go.Proofs.YtkcnmjdomipbjaaGreat
