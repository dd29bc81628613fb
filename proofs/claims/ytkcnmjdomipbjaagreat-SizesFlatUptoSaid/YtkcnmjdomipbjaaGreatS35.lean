import Derived.Test.YtkcnmjdomipbjaaGreatS29
set_option linter.unusedVariables false
set_option maxHeartbeats 100000000
set_option maxRecDepth 100000
namespace Go.Proofs.YtkcnmjdomipbjaaGreat
open Go.RowKit
theorem st_e1 {m : Nat} {t : ByteArray} (h : t.size <= m) : StOk m t ⟨#[]⟩ ⟨#[]⟩ ⟨#[]⟩ ⟨#[]⟩ := ⟨h, Nat.zero_le _, Nat.zero_le _, Nat.zero_le _, Nat.zero_le _⟩
theorem st_e2 {m : Nat} {t : ByteArray} (h : t.size <= 1) (hm : 2 <= m) : StOk m (⟨#[47]⟩ ++ t) ⟨#[]⟩ ⟨#[]⟩ ⟨#[]⟩ ⟨#[]⟩ := st_e1 (by rw [ByteArray.size_append, show (⟨#[47]⟩ : ByteArray).size = 1 from rfl]; omega)
theorem st_p1 {m : Nat} {a b c d e x : ByteArray} (h : StOk m a b c d e) (hx : x.size <= m + 1) : StOk (m + 1) a b x d e := ⟨Nat.le_succ_of_le h.1, Nat.le_succ_of_le h.2.1, hx, Nat.le_succ_of_le h.2.2.2.1, Nat.le_succ_of_le h.2.2.2.2⟩
theorem outside0_any (c : Int) (h0 : 0 <= c) (h1 : c <= 255) (m : Nat) (w : World) (hm : 16 <= m) (hm2 : m <= 1048575) : Calls Tryz.prog 99 #[.agg #[.int .i64 0, .string ⟨#[]⟩, .string ⟨#[]⟩, .int .u8 0, .string ⟨#[]⟩, .string ⟨#[]⟩, .int .i64 0, .string ⟨#[]⟩], .int .u8 c] w (PSt (m + 1) w) := by
 have HA := hid (fun W => refLetter_any c h0 h1 W)
 have HC := hid (fun W => char_any 0 ⟨#[]⟩ ⟨#[]⟩ 0 ⟨#[]⟩ ⟨#[]⟩ 0 ⟨#[]⟩ c h0 h1 m W hm hm2 st_zero)
 obtain ⟨W, hW⟩ := xE ((w.alloc (.cells #[.int .i64 0, .string ⟨#[]⟩, .string ⟨#[]⟩, .int .u8 0, .string ⟨#[]⟩, .string ⟨#[]⟩, .int .i64 0, .string ⟨#[]⟩] 32)).alloc (.cells #[.int .i64 0, .string ⟨#[]⟩, .string ⟨#[]⟩, .int .u8 0, .string ⟨#[]⟩, .string ⟨#[]⟩, .int .i64 0, .string ⟨#[]⟩] 32))
 have HS : Hid (Blk W w.heap.size 32 #[.int .i64 0, .string ⟨#[]⟩, .string ⟨#[]⟩, .int .u8 0, .string ⟨#[]⟩, .string ⟨#[]⟩, .int .i64 0, .string ⟨#[]⟩]) := hid (by rw [<- hW]; exact (Blk.new w _ _).alloc _)
 have HR : Hid (Blk W (w.heap.size + 1) 32 #[.int .i64 0, .string ⟨#[]⟩, .string ⟨#[]⟩, .int .u8 0, .string ⟨#[]⟩, .string ⟨#[]⟩, .int .i64 0, .string ⟨#[]⟩]) := hid (by rw [<- hW]; exact Blk.new_at _ _ (by simp) _ _)
 have HbW : Hid (Below w.heap.size w W) := hid (by rw [<- hW]; go_grown)
 obtain ⟨pt, hpt⟩ := xE w.heap.size
 have hlt2 := HR.out.lt
 have hlt1 := HS.out.lt
 rw [hpt] at HS HR hlt1 hlt2
 have hsz : Hid (W.heap.size = pt + 2) := hid (by rw [<- hW, <- hpt]; simp)
 obtain ⟨⟨c0, c1, c2, c3, c4, c5, c6, c7⟩, f0, f1, f2, f3, f4, f5, f6, f7⟩ := st_cells HS.out
 obtain ⟨⟨d0, d1, d2, d3, d4, d5, d6, d7⟩, g0, g1, g2, g3, g4, g5, g6, g7⟩ := st_cells HR.out
 go_enter Tryz.func99, Tryz.ntmps99
 go_wp2_with (first
  | (go_at_call 62; refine (HA.out _).mono ?_; rintro e w1 ⟨rfl, rfl⟩)
  | (go_at_call 115; refine (HC.out _).mono ?_; rintro e w2 ⟨k2, el2, at2, dl2, pe2, rf2, pa2, wd2, er, rfl, ok2, hb2⟩; have HR2 := hid (HR.out.below hb2 hlt2); have Hb2 : Hid (Below w.heap.size w w2) := hid (HbW.out.trans (hb2.mono HbW.out.size)); clear c0 c1 c2 c3 c4 c5 c6 c7 f0 f1 f2 f3 f4 f5 f6 f7; clear d0 d1 d2 d3 d4 d5 d6 d7 g0 g1 g2 g3 g4 g5 g6 g7; obtain ⟨⟨d0, d1, d2, d3, d4, d5, d6, d7⟩, g0, g1, g2, g3, g4, g5, g6, g7⟩ := st_cells HR2.out))
 all_goals first
  | (
   (try simp only [Exit.inBlock, Exit.then]);refine rc1 (pt + 1) (st_put HR2.out) ?_;exact ⟨_, _, _, _, _, _, _, _, _, rfl, ok2, Hb2.out.trans (st_put_below (by omega))⟩
   done)
  | (
   (try simp only [Exit.inBlock, Exit.then]);refine rc1 (pt + 1) (st_put HR.out) ?_;exact ⟨_, _, _, _, _, _, _, _, _, rfl, st_zero, HbW.out.trans (st_put_below (by omega))⟩
   done)
theorem outside_any (k : Int) (el at_ : ByteArray) (dl : Int) (pe rf : ByteArray) (pa : Int) (wd : ByteArray) (c : Int) (h0 : 0 <= c) (h1 : c <= 255) (m : Nat) (w : World) (hm : 16 <= m) (hm2 : m <= 1048575) (hok' : StOk m el at_ pe rf wd) : Calls Tryz.prog 99 #[.agg #[.int .i64 k, .string el, .string at_, .int .u8 dl, .string pe, .string rf, .int .i64 pa, .string wd], .int .u8 c] w (PSt (m + 1) w) := by
 have hok := hok'.mono (Nat.le_succ m)
 have HA := hid (fun W => refLetter_any c h0 h1 W)
 obtain ⟨b1, hb1⟩ := xE (isLetter (bOf c))
 rw [hb1] at HA
 clear hb1
 have HC := hid (fun k W => char_any k el at_ dl pe rf pa wd c h0 h1 m W hm hm2 hok')
 have HZ := hid (fun W => outside0_any c h0 h1 m W hm hm2)
 have HL := hid (fun W => low17_any c h0 h1 W)
 have hpz : pe.size <= 1048576 := Nat.le_trans hok.2.2.1 (by omega)
 obtain ⟨W, hW⟩ := xE ((w.alloc (.cells #[.int .i64 k, .string el, .string at_, .int .u8 dl, .string pe, .string rf, .int .i64 pa, .string wd] 32)).alloc (.cells #[.int .i64 0, .string ⟨#[]⟩, .string ⟨#[]⟩, .int .u8 0, .string ⟨#[]⟩, .string ⟨#[]⟩, .int .i64 0, .string ⟨#[]⟩] 32))
 have HS : Hid (Blk W w.heap.size 32 #[.int .i64 k, .string el, .string at_, .int .u8 dl, .string pe, .string rf, .int .i64 pa, .string wd]) := hid (by rw [<- hW]; exact (Blk.new w _ _).alloc _)
 have HR : Hid (Blk W (w.heap.size + 1) 32 #[.int .i64 0, .string ⟨#[]⟩, .string ⟨#[]⟩, .int .u8 0, .string ⟨#[]⟩, .string ⟨#[]⟩, .int .i64 0, .string ⟨#[]⟩]) := hid (by rw [<- hW]; exact Blk.new_at _ _ (by simp) _ _)
 have HbW : Hid (Below w.heap.size w W) := hid (by rw [<- hW]; go_grown)
 obtain ⟨pt, hpt⟩ := xE w.heap.size
 have hlt2 := HR.out.lt
 have hlt1 := HS.out.lt
 rw [hpt] at HS HR hlt1 hlt2
 have hsz : Hid (W.heap.size = pt + 2) := hid (by rw [<- hW, <- hpt]; simp)
 obtain ⟨⟨c0, c1, c2, c3, c4, c5, c6, c7⟩, f0, f1, f2, f3, f4, f5, f6, f7⟩ := st_cells HS.out
 obtain ⟨⟨d0, d1, d2, d3, d4, d5, d6, d7⟩, g0, g1, g2, g3, g4, g5, g6, g7⟩ := st_cells HR.out
 clear HS
 go_enter Tryz.func99, Tryz.ntmps99
 go_wp2_with (first
  | (go_at_call 62; refine (HA.out _).mono ?_; rintro e w1 ⟨rfl, rfl⟩)
  | (go_at_call 115; refine (HC.out _ _).mono ?_; rintro e w2 ⟨k2, el2, at2, dl2, pe2, rf2, pa2, wd2, er, rfl, ok2, hb2⟩; have HR2 := hid (HR.out.below hb2 hlt2); have Hb2 : Hid (Below w.heap.size w w2) := hid (HbW.out.trans (hb2.mono HbW.out.size)); clear c0 c1 c2 c3 c4 c5 c6 c7 f0 f1 f2 f3 f4 f5 f6 f7; clear d0 d1 d2 d3 d4 d5 d6 d7 g0 g1 g2 g3 g4 g5 g6 g7; obtain ⟨⟨d0, d1, d2, d3, d4, d5, d6, d7⟩, g0, g1, g2, g3, g4, g5, g6, g7⟩ := st_cells HR2.out)
  | (go_at_call 99; refine (HZ.out _).mono ?_; rintro e w2 ⟨k2, el2, at2, dl2, pe2, rf2, pa2, wd2, er, rfl, ok2, hb2⟩; have HR2 := hid (HR.out.below hb2 hlt2); have Hb2 : Hid (Below w.heap.size w w2) := hid (HbW.out.trans (hb2.mono HbW.out.size)); clear c0 c1 c2 c3 c4 c5 c6 c7 f0 f1 f2 f3 f4 f5 f6 f7; clear d0 d1 d2 d3 d4 d5 d6 d7 g0 g1 g2 g3 g4 g5 g6 g7; obtain ⟨⟨d0, d1, d2, d3, d4, d5, d6, d7⟩, g0, g1, g2, g3, g4, g5, g6, g7⟩ := st_cells HR2.out)
  | (go_at_call 116; refine (HL.out _).mono ?_; rintro e w2 ⟨t, rfl, ht, hb2⟩; have HR2 := hid (HR.out.below hb2 hlt2); have Hb2 : Hid (Below w.heap.size w w2) := hid (HbW.out.trans (hb2.mono HbW.out.size)); clear c0 c1 c2 c3 c4 c5 c6 c7 f0 f1 f2 f3 f4 f5 f6 f7; clear d0 d1 d2 d3 d4 d5 d6 d7 g0 g1 g2 g3 g4 g5 g6 g7; obtain ⟨⟨d0, d1, d2, d3, d4, d5, d6, d7⟩, g0, g1, g2, g3, g4, g5, g6, g7⟩ := st_cells HR2.out))
 all_goals first
  | (
   (try simp only [Exit.inBlock, Exit.then]);refine rc1 (pt + 1) (st_put HR2.out) ?_;exact ⟨_, _, _, _, _, _, _, _, _, rfl, (by first | exact ok2 | exact st_e1 (Nat.le_trans ht (by omega)) | exact st_e2 ht (by omega)), Hb2.out.trans (st_put_below (by omega))⟩
   done)
  | (
   (try simp only [Exit.inBlock, Exit.then]);refine rc1 (pt + 1) (st_put HR.out) ?_;exact ⟨_, _, _, _, _, _, _, _, _, rfl, (by first | exact st_zero | exact hok), HbW.out.trans (st_put_below (by omega))⟩
   done)
  | (
   (try simp only [Exit.inBlock, Exit.then]);refine rc1 (pt + 1) (st_put (HR.out.far (p := ⟨pt, 4, none⟩) (by simp) _)) ?_;exact ⟨_, _, _, _, _, _, _, _, _, rfl, st_p1 hok' (by first | exact Nat.zero_le _ | (rw [ByteArray.size_append]; exact Nat.succ_le_succ hok'.2.2.1)), (HbW.out.setCell (p := ⟨pt, 4, none⟩) (Nat.le_of_eq hpt) _).trans (st_put_below (by omega))⟩
   done)
  | skip
end Go.Proofs.YtkcnmjdomipbjaaGreat
