import Derived.Deep.Cut
import Derived.Test.YtkcnmjdomipbjaaGreatS29
set_option linter.unusedVariables false
set_option maxHeartbeats 100000000
set_option maxRecDepth 100000
namespace Go.Proofs.YtkcnmjdomipbjaaGreat
open Go.RowKit
theorem starts_any (s p : ByteArray) (w : World) (hs : s.size <= 1099511627775) (hp : p.size <= 1099511627775) : Calls Tryz.prog 120 #[.string s, .string p] w (AB w) := by
 have HL := hid (fun s hs W => refLower_any s W hs)
 have HB := hid (fun a b W h1 h2 => begs_any a b W h1 h2)
 have key : ∀ (s t : ByteArray), t.data.toList = low s.data.toList -> t.size = s.size := fun s t h => by
  have := congrArg List.length h;rw [len_data, low_length, len_data] at this; exact this
 have Hk := hid key
 clear key
 go_enter Tryz.func120, Tryz.ntmps120
 go_wp2_with (first
  | (go_at_call 86; (with_reducible refine (HL.out p (by omega) _).mono ?_); rintro e w1 ⟨t1, rfl, h1, hb1⟩; have z1 := Hk.out _ _ h1.out)
  | (go_at_call 86; (with_reducible refine (HL.out s (by omega) _).mono ?_); rintro e w2 ⟨t2, rfl, h2, hb2⟩; have z2 := Hk.out _ _ h2.out)
  | (go_at_call 35; refine (HB.out _ _ _ ?ca ?cb).mono ?_; (case ca => omega); (case cb => omega); rintro e w3 ⟨b, rfl, _, rfl⟩))
 go_ret
 exact ⟨_, rfl, hb1.trans (hb2.mono hb1.size)⟩
theorem raw_any (k : Int) (el at_ : ByteArray) (dl : Int) (pe rf : ByteArray) (pa : Int) (wd : ByteArray) (c : Int) (h0 : 0 <= c) (h1 : c <= 255) (m : Nat) (w : World) (hm : 16 <= m) (hm2 : m <= 1048574) (hok' : StOk m el at_ pe rf wd) : Calls Tryz.prog 101 #[.agg #[.int .i64 k, .string el, .string at_, .int .u8 dl, .string pe, .string rf, .int .i64 pa, .string wd], .int .u8 c] w (PSt (m + 1) w) := by
 have hok := hok'.mono (Nat.le_succ m)
 have HU := hid (fun k el at_ dl pe rf pa wd t W h1 h2 => sub_any k el at_ dl pe rf pa wd t m W (by omega) (by omega) h1 h2)
 have HC := hid (fun k el at_ dl pe rf pa wd c h0 h1 W hok => char_any k el at_ dl pe rf pa wd c h0 h1 m W hm (by omega) hok)
 have HT := hid (fun s p h1 h2 W => starts_any s p W h1 h2)
 have HG := hid (fun a b h1 h2 W => begs_any a b W h1 h2)
 have HB := hid (fun W => refBlank_any c h0 h1 W)
 have HW := hid (fun k el at_ dl pe rf pa wd c h0 h1 hok W => within_any k el at_ dl pe rf pa wd c h0 h1 (m + 1) W (by omega) hok)
 obtain ⟨b1, hb1⟩ := xE (isBlank (bOf c))
 rw [hb1] at HB
 clear hb1
 obtain ⟨W, hW⟩ := xE ((w.alloc (.cells #[.int .i64 k, .string el, .string at_, .int .u8 dl, .string pe, .string rf, .int .i64 pa, .string wd] 32)).alloc (.cells #[.int .i64 0, .string ⟨#[]⟩, .string ⟨#[]⟩, .int .u8 0, .string ⟨#[]⟩, .string ⟨#[]⟩, .int .i64 0, .string ⟨#[]⟩] 32))
 have HS : Hid (Blk W w.heap.size 32 #[.int .i64 k, .string el, .string at_, .int .u8 dl, .string pe, .string rf, .int .i64 pa, .string wd]) := hid (by rw [<- hW]; exact (Blk.new w _ _).alloc _)
 have HR : Hid (Blk W (w.heap.size + 1) 32 #[.int .i64 0, .string ⟨#[]⟩, .string ⟨#[]⟩, .int .u8 0, .string ⟨#[]⟩, .string ⟨#[]⟩, .int .i64 0, .string ⟨#[]⟩]) := hid (by rw [<- hW]; exact Blk.new_at _ _ (by simp) _ _)
 have HbW : Hid (Below w.heap.size w W) := hid (by rw [<- hW]; go_grown)
 obtain ⟨pt, hpt⟩ := xE w.heap.size
 have hlt2 := HR.out.lt
 have hlt1 := HS.out.lt
 rw [hpt] at HS HR hlt1 hlt2
 have hsz : Hid (W.heap.size = pt + 2) := hid (by rw [<- hW, <- hpt]; simp)
 have Hcv := hid (fun W => conv_one (P := Tryz.prog) c W 62 9 5 Tryz.underlying62 Tryz.underlying5 Tryz.underlying9 h0 h1)
 obtain ⟨oc, hoc⟩ : ∃ x : ByteArray, ⟨#[bOf c]⟩ = x := ⟨_, rfl⟩
 have hoz : Hid (oc.size = 1) := hid (by rw [<- hoc]; rfl)
 rw [hoc] at Hcv
 clear hoc
 obtain ⟨nm, hnm⟩ := xE ((⟨#[60, 47]⟩ : ByteArray) ++ el)
 have hnz : Hid (nm.size = 2 + el.size) := hid (by rw [<- hnm, ByteArray.size_append]; rfl)
 have hez : el.size <= 1048576 := Nat.le_trans hok.1 (by omega)
 obtain ⟨⟨c0, c1, c2, c3, c4, c5, c6, c7⟩, f0, f1, f2, f3, f4, f5, f6, f7⟩ := st_cells HS.out
 go_enter Tryz.func101, Tryz.ntmps101
 go_upto_if 15 with fail
 clear hW
 obtain ⟨q, hq⟩ := xE (!pe.toList.isEmpty)
 rw [hq]
 clear hq
 go_cut [7, 8, 9] from 10 (fun _ _ _ wx => MidSt m w pt wx)
 case first =>
  cases q
  ·go_wp2
   go_meet;exact ⟨_, _, _, _, _, _, _, _, hok', HS.out, HR.out, HbW.out⟩
  obtain ⟨t, ht⟩ := xE (pe ++ oc);have htz : Hid (t.size <= m + 1) := hid (by rw [<- ht, ByteArray.size_append, hoz.out]; have := hok'.2.2.1; omega);have hoz' := hoz.out;have hrz := hok'.2.2.1;have hcv := Hcv.out W;go_upto_region 4 with fail
  obtain ⟨W1, hW1⟩ := xE (W.alloc (.cells #[.int .u8 c] 5));have HS1 : Hid (Blk W1 pt 32 #[.int .i64 k, .string el, .string at_, .int .u8 dl, .string pe, .string rf, .int .i64 pa, .string wd]) := hid (by rw [<- hW1]; exact HS.out.alloc _);have HR1 : Hid (Blk W1 (pt + 1) 32 #[.int .i64 0, .string ⟨#[]⟩, .string ⟨#[]⟩, .int .u8 0, .string ⟨#[]⟩, .string ⟨#[]⟩, .int .i64 0, .string ⟨#[]⟩]) := hid (by rw [<- hW1]; exact HR.out.alloc _);have Hb1 : Hid (Below w.heap.size w W1) := hid (by rw [<- hW1]; exact HbW.out.alloc HbW.out.size _);rw [hW1];clear hW1 hcv HS HR c0 c1 c2 c3 c4 c5 c6 c7 f0 f1 f2 f3 f4 f5 f6 f7;have hl1 := HS1.out.lt;have hl2 := HR1.out.lt;have htz' := htz.out;have hnz' := hnz.out;obtain ⟨⟨c0, c1, c2, c3, c4, c5, c6, c7⟩, f0, f1, f2, f3, f4, f5, f6, f7⟩ := st_cells HS1.out;obtain ⟨q1, hq1⟩ := xE (k == 19);have HT1 := hid (HT.out nm t (by omega) (by omega));have HG1 := hid (HG.out t ⟨#[60, 33, 45, 45]⟩ (by omega) (by decide));go_cut [33] from 10 (fun c wx => ∃ b : Bool, c = .bool b /\ Below W1.heap.size W1 wx)
  case first =>
   go_wp2_with (first
    | (go_at_call 120; refine (HT1.out _).mono ?_; rintro e w2 ⟨b2, rfl, hb2⟩; have HS2 := hid (HS1.out.below hb2 hl1); clear c0 c1 c2 c3 c4 c5 c6 c7 f0 f1 f2 f3 f4 f5 f6 f7; obtain ⟨⟨c0, c1, c2, c3, c4, c5, c6, c7⟩, f0, f1, f2, f3, f4, f5, f6, f7⟩ := st_cells HS2.out)
    | (go_at_call 35; refine (HG1.out _).mono ?_; rintro e w3 ⟨b3, rfl, _, rfl⟩))
   all_goals (
    go_meet;exact ⟨_, rfl, hb2⟩)
  obtain ⟨bb, rfl, hb2⟩ := hcut;have HS2 := hid (HS1.out.below hb2 hl1);have HR2 := hid (HR1.out.below hb2 hl2);have Hb2 : Hid (Below w.heap.size w wc) := hid (Hb1.out.trans (hb2.mono Hb1.out.size));clear c0 c1 c2 c3 c4 c5 c6 c7 f0 f1 f2 f3 f4 f5 f6 f7;clear HS1 HR1 Hb1 hb2 hl1 hl2 HT1 HG1;have hl1 := HS2.out.lt;have hl2 := HR2.out.lt;obtain ⟨⟨c0, c1, c2, c3, c4, c5, c6, c7⟩, f0, f1, f2, f3, f4, f5, f6, f7⟩ := st_cells HS2.out;obtain ⟨⟨d0, d1, d2, d3, d4, d5, d6, d7⟩, g0, g1, g2, g3, g4, g5, g6, g7⟩ := st_cells HR2.out;cases bb
  ·go_upto_region 9 with fail
   go_cut [63] from 10 (fun c wx => ∃ b : Bool, c = .bool b /\ wx = wc)
   case first =>
    by_cases hpe : (pe.size : Int) = nm.size
    ·have h1p : 1 < pe.size := by omega
     obtain ⟨n1, hn1, hn0, hn255⟩ := u8b pe 1 h1p;obtain ⟨qs, hqs⟩ := xE (n1 == 47);obtain ⟨q5, hq5⟩ := xE (c == 47);obtain ⟨q6, hq6⟩ := xE (c == 62);go_wp2_with (go_at_call 37; refine (HB.out _).mono ?_; rintro e w3 ⟨rfl, rfl⟩)
     all_goals (
      go_meet;exact ⟨_, rfl, rfl⟩)
    go_wp2_with fail
    go_meet;exact ⟨_, rfl, rfl⟩
   obtain ⟨bb, rfl, hwc⟩ := hcut;obtain rfl := hwc;have htz9 := htz.out;have hok9 : StOk m el at_ ⟨#[]⟩ rf wd := ⟨hok'.1, hok'.2.1, Nat.zero_le _, hok'.2.2.2.1, hok'.2.2.2.2⟩
   clear ht;cases bb
   ·have A1 := hid (HU.out k el at_ dl ⟨#[]⟩ rf pa wd pe · hok9 (Nat.le_trans hok'.2.2.1 (by omega)));clear d0 d1 d2 d3 d4 d5 d6 d7 g0 g1 g2 g3 g4 g5 g6 g7;go_upto_region 13 with fail
    obtain ⟨w4, hw4⟩ := xE (wc.setCell ⟨pt, 4, none⟩ (.string ⟨#[]⟩));have HS4 : Hid (Blk w4 pt 32 #[.int .i64 k, .string el, .string at_, .int .u8 dl, .string ⟨#[]⟩, .string rf, .int .i64 pa, .string wd]) := hid (by rw [<- hw4]; exact HS2.out.set_ 4 _);have HR4 : Hid (Blk w4 (pt + 1) 32 #[.int .i64 0, .string ⟨#[]⟩, .string ⟨#[]⟩, .int .u8 0, .string ⟨#[]⟩, .string ⟨#[]⟩, .int .i64 0, .string ⟨#[]⟩]) := hid (by rw [<- hw4]; exact HR2.out.far (by simp) _);have Hb4 : Hid (Below w.heap.size w w4) := hid (by rw [<- hw4]; exact Hb2.out.setCell (p := ⟨pt, 4, none⟩) (Nat.le_of_eq hpt) _);rw [hw4];clear hw4 HS2 HR2 Hb2 c0 c1 c2 c3 c4 c5 c6 c7 f0 f1 f2 f3 f4 f5 f6 f7;clear hl1 hl2;have hl1 := HS4.out.lt;have hl2 := HR4.out.lt;obtain ⟨⟨c0, c1, c2, c3, c4, c5, c6, c7⟩, _⟩ := st_cells HS4.out;go_upto_region 14 with (go_at_call 121; refine (A1.out _).mono ?_; rintro e w5 ⟨k2, el2, at2, dl2, pe2, rf2, pa2, wd2, er, rfl, ok2, hb5⟩; clear c0 c1 c2 c3 c4 c5 c6 c7)
    obtain ⟨w6, hw6⟩ := xE (w5.alloc (.cells #[.int .i64 k2, .string el2, .string at2, .int .u8 dl2, .string pe2, .string rf2, .int .i64 pa2, .string wd2] 32));have HS6 : Hid (Blk w6 pt 32 #[.int .i64 k, .string el, .string at_, .int .u8 dl, .string ⟨#[]⟩, .string rf, .int .i64 pa, .string wd]) := hid (by rw [<- hw6]; exact (HS4.out.below hb5 hl1).alloc _);have HR6 : Hid (Blk w6 (pt + 1) 32 #[.int .i64 0, .string ⟨#[]⟩, .string ⟨#[]⟩, .int .u8 0, .string ⟨#[]⟩, .string ⟨#[]⟩, .int .i64 0, .string ⟨#[]⟩]) := hid (by rw [<- hw6]; exact (HR4.out.below hb5 hl2).alloc _);have HX6 : Hid (Blk w6 w5.heap.size 32 #[.int .i64 k2, .string el2, .string at2, .int .u8 dl2, .string pe2, .string rf2, .int .i64 pa2, .string wd2]) := hid (by rw [<- hw6]; exact Blk.new w5 _ _);have hb45 := Hb4.out.trans (hb5.mono Hb4.out.size);have Hb6 : Hid (Below w.heap.size w w6) := hid (by rw [<- hw6]; exact hb45.alloc hb45.size _);have hne1 : Hid (¬ (pt + 1 = w5.heap.size)) := hid (by have := hb5.size; omega);have hne0 : Hid (¬ (w5.heap.size = pt)) := hid (by have := hb5.size; omega);rw [hw6];obtain ⟨u, hu⟩ := xE w5.heap.size;rw [hu] at HX6 hne1 hne0;rw [hu];clear hu HS4 HR4 Hb4 hb5 hb45 hw6 hl1 hl2 HU HC HT HG HW HB;obtain ⟨⟨e0, e1, e2, e3, e4, e5, e6, e7⟩, _⟩ := st_cells HX6.out;obtain ⟨q3, hq3⟩ := xE (er != 0);cases q3
    ·obtain ⟨⟨c0, c1, c2, c3, c4, c5, c6, c7⟩, f0, f1, f2, f3, f4, f5, f6, f7⟩ := st_cells HS6.out;go_wp2
     go_meet;exact ⟨_, _, _, _, _, _, _, _, ok2, st_put HS6.out, st_far HR6.out (by omega), Hb6.out.trans (st_put_below (by omega))⟩
    obtain ⟨⟨d0, d1, d2, d3, d4, d5, d6, d7⟩, g0, g1, g2, g3, g4, g5, g6, g7⟩ := st_cells HR6.out;go_wp2
    (try simp only [Exit.inBlock, Exit.then]);refine rc1 (pt + 1) (st_put HR6.out) ?_;exact ⟨_, _, _, _, _, _, _, _, _, rfl, ok2.mono (Nat.le_succ m), Hb6.out.trans (st_put_below (by omega))⟩
   obtain ⟨el5, hel5⟩ := xE ((⟨#[47]⟩ : ByteArray) ++ el);have hok5 : StOk (m + 1) el5 ⟨#[]⟩ ⟨#[]⟩ ⟨#[]⟩ ⟨#[]⟩ := ⟨by rw [<- hel5, ByteArray.size_append]; have := hok'.1; show 1 + _ <= _; omega, Nat.zero_le _, Nat.zero_le _, Nat.zero_le _, Nat.zero_le _⟩
   have A5 := hid (fun h0 h1 => HW.out 0 el5 ⟨#[]⟩ 0 ⟨#[]⟩ ⟨#[]⟩ 0 ⟨#[]⟩ c h0 h1 hok5);clear d0 d1 d2 d3 d4 d5 d6 d7 g0 g1 g2 g3 g4 g5 g6 g7;go_wp2_with (go_at_call 117; refine (A5.out ?ca ?cb _).mono ?_; (case ca => exact h0); (case cb => exact h1); rintro e w4 ⟨k3, el3, at3, dl3, pe3, rf3, pa3, wd3, er, rfl, ok3, hb4⟩; have HR4 := hid (HR2.out.below hb4 hl2); have Hb4 : Hid (Below w.heap.size w w4) := hid (Hb2.out.trans (hb4.mono Hb2.out.size)); clear c0 c1 c2 c3 c4 c5 c6 c7 f0 f1 f2 f3 f4 f5 f6 f7; obtain ⟨⟨d0, d1, d2, d3, d4, d5, d6, d7⟩, g0, g1, g2, g3, g4, g5, g6, g7⟩ := st_cells HR4.out)
   (try simp only [Exit.inBlock, Exit.then]);refine rc1 (pt + 1) (st_put HR4.out) ?_;exact ⟨_, _, _, _, _, _, _, _, _, rfl, ok3, Hb4.out.trans (st_put_below (by omega))⟩
  have hok9 : StOk (m + 1) el at_ t rf wd := ⟨hok.1, hok.2.1, htz.out, hok.2.2.2.1, hok.2.2.2.2⟩
  go_upto_region 6 with fail
  obtain ⟨w4, hw4⟩ := xE (wc.setCell ⟨pt, 4, none⟩ (.string t));have HS4 : Hid (Blk w4 pt 32 #[.int .i64 k, .string el, .string at_, .int .u8 dl, .string t, .string rf, .int .i64 pa, .string wd]) := hid (by rw [<- hw4]; exact HS2.out.set_ 4 _);have HR4 : Hid (Blk w4 (pt + 1) 32 #[.int .i64 0, .string ⟨#[]⟩, .string ⟨#[]⟩, .int .u8 0, .string ⟨#[]⟩, .string ⟨#[]⟩, .int .i64 0, .string ⟨#[]⟩]) := hid (by rw [<- hw4]; exact HR2.out.far (by simp) _);have Hb4 : Hid (Below w.heap.size w w4) := hid (by rw [<- hw4]; exact Hb2.out.setCell (p := ⟨pt, 4, none⟩) (Nat.le_of_eq hpt) _);rw [hw4];clear c0 c1 c2 c3 c4 c5 c6 c7 f0 f1 f2 f3 f4 f5 f6 f7;clear d0 d1 d2 d3 d4 d5 d6 d7 g0 g1 g2 g3 g4 g5 g6 g7;clear hw4 HS2 HR2 Hb2;obtain ⟨⟨c0, c1, c2, c3, c4, c5, c6, c7⟩, f0, f1, f2, f3, f4, f5, f6, f7⟩ := st_cells HS4.out;obtain ⟨⟨d0, d1, d2, d3, d4, d5, d6, d7⟩, g0, g1, g2, g3, g4, g5, g6, g7⟩ := st_cells HR4.out;go_wp2
  all_goals (
   (try simp only [Exit.inBlock, Exit.then]);refine rc1 (pt + 1) (st_put HR4.out) ?_;exact ⟨_, _, _, _, _, _, _, _, _, rfl, hok9, Hb4.out.trans (st_put_below (by omega))⟩)
 obtain ⟨k2, el2, at2, dl2, pe2, rf2, pa2, wd2, ok2, hs2, hr2, hb2⟩ := hcut
 have HS2 := hid hs2
 have HR2 := hid hr2
 have Hb2 := hid hb2
 have hl1 := hs2.lt
 have hl2 := hr2.lt
 clear c0 c1 c2 c3 c4 c5 c6 c7 f0 f1 f2 f3 f4 f5 f6 f7
 clear hs2 hr2 hb2
 obtain ⟨⟨c0, c1, c2, c3, c4, c5, c6, c7⟩, f0, f1, f2, f3, f4, f5, f6, f7⟩ := st_cells HS2.out
 obtain ⟨⟨d0, d1, d2, d3, d4, d5, d6, d7⟩, g0, g1, g2, g3, g4, g5, g6, g7⟩ := st_cells HR2.out
 have A3 := hid (HU.out k2 el2 at2 dl2 pe2 rf2 pa2 wd2 oc · ok2 (by rw [hoz.out]; omega))
 have A4 := hid (fun W => HC.out k2 el2 at2 dl2 pe2 rf2 pa2 wd2 c h0 h1 W ok2)
 have hcv := Hcv.out wc
 obtain ⟨q5, hq5⟩ := xE (c == 60)
 obtain ⟨q6, hq6⟩ := xE (k2 == 17)
 cases q5
 ·cases q6
  ·go_upto_region 24 with (go_at_call 121; refine (A3.out _).mono ?_; rintro e w4 ⟨k3, el3, at3, dl3, pe3, rf3, pa3, wd3, er, rfl, ok3, hb4⟩; have HR4 := hid ((HR2.out.alloc _).below hb4 (Nat.lt_of_lt_of_le hl2 (alloc_below _ _).size)); have Hb4 : Hid (Below w.heap.size w w4) := hid ((Hb2.out.alloc Hb2.out.size _).trans (hb4.mono (Hb2.out.alloc Hb2.out.size _).size)); clear c0 c1 c2 c3 c4 c5 c6 c7 f0 f1 f2 f3 f4 f5 f6 f7; clear d0 d1 d2 d3 d4 d5 d6 d7 g0 g1 g2 g3 g4 g5 g6 g7; obtain ⟨⟨d0, d1, d2, d3, d4, d5, d6, d7⟩, g0, g1, g2, g3, g4, g5, g6, g7⟩ := st_cells HR4.out)
   (try simp only [Exit.inBlock, Exit.then]);refine rc1 (pt + 1) (st_put HR4.out) ?_;exact ⟨_, _, _, _, _, _, _, _, _, rfl, ok3.mono (Nat.le_succ m), Hb4.out.trans (st_put_below (by omega))⟩
  clear d0 d1 d2 d3 d4 d5 d6 d7 g0 g1 g2 g3 g4 g5 g6 g7;go_wp2_with (go_at_call 115; refine (A4.out _).mono ?_; rintro e w4 ⟨k3, el3, at3, dl3, pe3, rf3, pa3, wd3, er, rfl, ok3, hb4⟩; have HR4 := hid (HR2.out.below hb4 hl2); have Hb4 : Hid (Below w.heap.size w w4) := hid (Hb2.out.trans (hb4.mono Hb2.out.size)); clear c0 c1 c2 c3 c4 c5 c6 c7 f0 f1 f2 f3 f4 f5 f6 f7; obtain ⟨⟨d0, d1, d2, d3, d4, d5, d6, d7⟩, g0, g1, g2, g3, g4, g5, g6, g7⟩ := st_cells HR4.out)
  (try simp only [Exit.inBlock, Exit.then]);refine rc1 (pt + 1) (st_put HR4.out) ?_;exact ⟨_, _, _, _, _, _, _, _, _, rfl, ok3, Hb4.out.trans (st_put_below (by omega))⟩
 go_wp2
 (try simp only [Exit.inBlock, Exit.then])
 refine rc1 (pt + 1) (st_put ((HR2.out.far (p := ⟨pt, 4, none⟩) (by simp) _).far (p := ⟨pt, 5, none⟩) (by simp) _)) ?_
 exact ⟨_, _, _, _, _, _, _, _, _, rfl, ⟨(ok2.mono (Nat.le_succ m)).1, (ok2.mono (Nat.le_succ m)).2.1, Nat.le_trans (Nat.le_refl 1) (by omega), Nat.zero_le _, (ok2.mono (Nat.le_succ m)).2.2.2.2⟩, ((Hb2.out.setCell (p := ⟨pt, 4, none⟩) (Nat.le_of_eq hpt) _).setCell (p := ⟨pt, 5, none⟩) (Nat.le_of_eq hpt) _).trans (st_put_below (by omega))⟩
end Go.Proofs.YtkcnmjdomipbjaaGreat
