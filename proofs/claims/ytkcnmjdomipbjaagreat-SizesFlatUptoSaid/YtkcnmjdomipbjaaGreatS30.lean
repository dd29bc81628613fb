import Derived.Test.YtkcnmjdomipbjaaGreatS29
set_option linter.unusedVariables false
set_option maxHeartbeats 100000000
set_option maxRecDepth 100000
namespace Go.Proofs.YtkcnmjdomipbjaaGreat
open Go.RowKit
theorem st_el1 {m : Nat} {a b c d e x : ByteArray} (h : StOk m a b c d e) (hx : x.size <= 1) : StOk (m + 1) (a ++ x) b c d e := ⟨by rw [ByteArray.size_append]; have := h.1; omega, Nat.le_succ_of_le h.2.1, Nat.le_succ_of_le h.2.2.1, Nat.le_succ_of_le h.2.2.2.1, Nat.le_succ_of_le h.2.2.2.2⟩
theorem st_at1 {m : Nat} {a b c d e x : ByteArray} (h : StOk m a b c d e) (hx : x.size <= 1) : StOk (m + 1) a (b ++ x) c d e := ⟨Nat.le_succ_of_le h.1, by rw [ByteArray.size_append]; have := h.2.1; omega, Nat.le_succ_of_le h.2.2.1, Nat.le_succ_of_le h.2.2.2.1, Nat.le_succ_of_le h.2.2.2.2⟩
theorem tag3_any (el at_ : ByteArray) (dl : Int) (pe rf : ByteArray) (pa : Int) (wd : ByteArray) (c : Int) (h0 : 0 <= c) (h1 : c <= 255) (m : Nat) (w : World) (hm : 16 <= m) (hm2 : m <= 1048575) (hok' : StOk m el at_ pe rf wd) : Calls Tryz.prog 100 #[.agg #[.int .i64 3, .string el, .string at_, .int .u8 dl, .string pe, .string rf, .int .i64 pa, .string wd], .int .u8 c] w (PSt (m + 1) w) := by
 have hok := hok'.mono (Nat.le_succ m)
 have HB := hid (fun W => refBlank_any c h0 h1 W)
 obtain ⟨b1, hb1⟩ := xE (isBlank (bOf c))
 rw [hb1] at HB
 clear hb1
 have HL := hid (fun W => low17_any c h0 h1 W)
 have HW := hid (fun k c h0 h1 W => within_any k el at_ dl pe rf pa wd c h0 h1 (m + 1) W (by omega) hok)
 have HC := hid (fun k c h0 h1 W => char_any k el at_ dl pe rf pa wd c h0 h1 m W hm hm2 hok')
 have HE := hid (fun k W => end17_any k el at_ dl pe rf pa wd (m + 1) W hok)
 have hez : el.size <= 1048576 := Nat.le_trans hok.1 (by omega)
 have haz : at_.size <= 1048576 := Nat.le_trans hok.2.1 (by omega)
 obtain ⟨W, hW⟩ := xE ((w.alloc (.cells #[.int .i64 3, .string el, .string at_, .int .u8 dl, .string pe, .string rf, .int .i64 pa, .string wd] 32)).alloc (.cells #[.int .i64 0, .string ⟨#[]⟩, .string ⟨#[]⟩, .int .u8 0, .string ⟨#[]⟩, .string ⟨#[]⟩, .int .i64 0, .string ⟨#[]⟩] 32))
 have HS : Hid (Blk W w.heap.size 32 #[.int .i64 3, .string el, .string at_, .int .u8 dl, .string pe, .string rf, .int .i64 pa, .string wd]) := hid (by rw [<- hW]; exact (Blk.new w _ _).alloc _)
 have HR : Hid (Blk W (w.heap.size + 1) 32 #[.int .i64 0, .string ⟨#[]⟩, .string ⟨#[]⟩, .int .u8 0, .string ⟨#[]⟩, .string ⟨#[]⟩, .int .i64 0, .string ⟨#[]⟩]) := hid (by rw [<- hW]; exact Blk.new_at _ _ (by simp) _ _)
 have HbW : Hid (Below w.heap.size w W) := hid (by rw [<- hW]; go_grown)
 obtain ⟨pt, hpt⟩ := xE w.heap.size
 have hlt2 := HR.out.lt
 have hlt1 := HS.out.lt
 rw [hpt] at HS HR hlt1 hlt2
 have hsz : Hid (W.heap.size = pt + 2) := hid (by rw [<- hW, <- hpt]; simp)
 obtain ⟨⟨c0, c1, c2, c3, c4, c5, c6, c7⟩, f0, f1, f2, f3, f4, f5, f6, f7⟩ := st_cells HS.out
 obtain ⟨⟨d0, d1, d2, d3, d4, d5, d6, d7⟩, g0, g1, g2, g3, g4, g5, g6, g7⟩ := st_cells HR.out
 go_enter Tryz.func100, Tryz.ntmps100
 go_upto_region 3 with (go_at_call 37; refine (HB.out _).mono ?_; rintro e w1 ⟨rfl, rfl⟩)
 clear hW HB
 go_wp2_with (first
  | (go_at_call 117; refine (HW.out _ _ ?ca ?cb _).mono ?_; (case ca => first | exact h0 | decide); (case cb => first | exact h1 | decide); rintro e w2 ⟨k2, el2, at2, dl2, pe2, rf2, pa2, wd2, er, rfl, ok2, hb2⟩; have HR2 := hid (HR.out.below hb2 hlt2); have Hb2 : Hid (Below w.heap.size w w2) := hid (HbW.out.trans (hb2.mono HbW.out.size)); clear c0 c1 c2 c3 c4 c5 c6 c7 f0 f1 f2 f3 f4 f5 f6 f7; clear d0 d1 d2 d3 d4 d5 d6 d7 g0 g1 g2 g3 g4 g5 g6 g7; obtain ⟨⟨d0, d1, d2, d3, d4, d5, d6, d7⟩, g0, g1, g2, g3, g4, g5, g6, g7⟩ := st_cells HR2.out; have hl22 := HR2.out.lt)
  | (go_at_call 118; refine (HE.out _ _).mono ?_; rintro e w2 ⟨k2, el2, at2, dl2, pe2, rf2, pa2, wd2, er, rfl, ok2, hb2⟩; have HR2 := hid (HR.out.below hb2 hlt2); have Hb2 : Hid (Below w.heap.size w w2) := hid (HbW.out.trans (hb2.mono HbW.out.size)); clear c0 c1 c2 c3 c4 c5 c6 c7 f0 f1 f2 f3 f4 f5 f6 f7; clear d0 d1 d2 d3 d4 d5 d6 d7 g0 g1 g2 g3 g4 g5 g6 g7; obtain ⟨⟨d0, d1, d2, d3, d4, d5, d6, d7⟩, g0, g1, g2, g3, g4, g5, g6, g7⟩ := st_cells HR2.out; have hl22 := HR2.out.lt)
  | (go_at_call 115; refine (HC.out _ _ ?ca ?cb _).mono ?_; (case ca => first | exact h0 | decide); (case cb => first | exact h1 | decide); rintro e w2 ⟨k2, el2, at2, dl2, pe2, rf2, pa2, wd2, er, rfl, ok2, hb2⟩; have HR2 := hid ((HR.out.far (p := ⟨pt, 0, none⟩) (by simp) _).below hb2 (by simpa using hlt2)); have Hb2 : Hid (Below w.heap.size w w2) := hid ((HbW.out.setCell (p := ⟨pt, 0, none⟩) (Nat.le_of_eq hpt) _).trans (hb2.mono (HbW.out.setCell (p := ⟨pt, 0, none⟩) (Nat.le_of_eq hpt) _).size)); clear c0 c1 c2 c3 c4 c5 c6 c7 f0 f1 f2 f3 f4 f5 f6 f7; clear d0 d1 d2 d3 d4 d5 d6 d7 g0 g1 g2 g3 g4 g5 g6 g7; obtain ⟨⟨d0, d1, d2, d3, d4, d5, d6, d7⟩, g0, g1, g2, g3, g4, g5, g6, g7⟩ := st_cells HR2.out; have hl22 := HR2.out.lt))
 all_goals first
  | (
   (try simp only [Exit.inBlock, Exit.then]);refine rc1 (pt + 1) (st_put HR2.out) ?_;exact ⟨_, _, _, _, _, _, _, _, _, rfl, ok2, Hb2.out.trans (st_put_below (by omega))⟩
   done)
  | (
   (try simp only [Exit.inBlock, Exit.then]);refine rc1 (pt + 1) (st_put HR.out) ?_;exact ⟨_, _, _, _, _, _, _, _, _, rfl, hok, HbW.out.trans (st_put_below (by omega))⟩
   done)
  | (
   (try simp only [Exit.inBlock, Exit.then]);refine rc1 (pt + 1) (st_put (HR.out.far (p := ⟨pt, 0, none⟩) (by simp) _)) ?_;exact ⟨_, _, _, _, _, _, _, _, _, rfl, hok, (HbW.out.setCell (p := ⟨pt, 0, none⟩) (Nat.le_of_eq hpt) _).trans (st_put_below (by omega))⟩
   done)
  | (
   (try simp only [Exit.inBlock, Exit.then]);refine rc1 (pt + 1) (st_put ((HR.out.far (p := ⟨pt, 0, none⟩) (by simp) _).far (p := ⟨pt, 3, none⟩) (by simp) _)) ?_;exact ⟨_, _, _, _, _, _, _, _, _, rfl, hok, ((HbW.out.setCell (p := ⟨pt, 0, none⟩) (Nat.le_of_eq hpt) _).setCell (p := ⟨pt, 3, none⟩) (Nat.le_of_eq hpt) _).trans (st_put_below (by omega))⟩
   done)
  | skip
 clear HW HC HE
 go_region_with (go_at_call 116; refine (HL.out _).mono ?_; rintro e w3 ⟨t, rfl, ht, hb3⟩; have HS3 := hid (HS.out.drew.below hb3 hlt1); have HR3 := hid (HR.out.drew.below hb3 hlt2); have Hb3 : Hid (Below w.heap.size w w3) := hid (HbW.out.drew.trans (hb3.mono (by simpa using HbW.out.size))); clear HR; clear c0 c1 c2 c3 c4 c5 c6 c7 f0 f1 f2 f3 f4 f5 f6 f7; clear d0 d1 d2 d3 d4 d5 d6 d7 g0 g1 g2 g3 g4 g5 g6 g7; obtain ⟨⟨c0, c1, c2, c3, c4, c5, c6, c7⟩, f0, f1, f2, f3, f4, f5, f6, f7⟩ := st_cells HS3.out; obtain ⟨⟨d0, d1, d2, d3, d4, d5, d6, d7⟩, g0, g1, g2, g3, g4, g5, g6, g7⟩ := st_cells HR3.out)
 all_goals (
  go_wp2
  (try simp only [Exit.inBlock, Exit.then]);refine rc1 (pt + 1) (st_put (HR3.out.far (p := ⟨pt, 1, none⟩) (by simp) _)) ?_;exact ⟨_, _, _, _, _, _, _, _, _, rfl, st_el1 hok' ht, (Hb3.out.setCell (p := ⟨pt, 1, none⟩) (Nat.le_of_eq hpt) _).trans (st_put_below (by omega))⟩)
theorem tag4_any (el at_ : ByteArray) (dl : Int) (pe rf : ByteArray) (pa : Int) (wd : ByteArray) (c : Int) (h0 : 0 <= c) (h1 : c <= 255) (m : Nat) (w : World) (hm : 16 <= m) (hm2 : m <= 1048575) (hok' : StOk m el at_ pe rf wd) : Calls Tryz.prog 100 #[.agg #[.int .i64 4, .string el, .string at_, .int .u8 dl, .string pe, .string rf, .int .i64 pa, .string wd], .int .u8 c] w (PSt (m + 1) w) := by
 have hok := hok'.mono (Nat.le_succ m)
 have HB := hid (fun W => refBlank_any c h0 h1 W)
 obtain ⟨b1, hb1⟩ := xE (isBlank (bOf c))
 rw [hb1] at HB
 clear hb1
 have HL := hid (fun W => low17_any c h0 h1 W)
 have HW := hid (fun k c h0 h1 W => within_any k el at_ dl pe rf pa wd c h0 h1 (m + 1) W (by omega) hok)
 have HC := hid (fun k c h0 h1 W => char_any k el at_ dl pe rf pa wd c h0 h1 m W hm hm2 hok')
 have HE := hid (fun k W => end17_any k el at_ dl pe rf pa wd (m + 1) W hok)
 have hez : el.size <= 1048576 := Nat.le_trans hok.1 (by omega)
 have haz : at_.size <= 1048576 := Nat.le_trans hok.2.1 (by omega)
 obtain ⟨W, hW⟩ := xE ((w.alloc (.cells #[.int .i64 4, .string el, .string at_, .int .u8 dl, .string pe, .string rf, .int .i64 pa, .string wd] 32)).alloc (.cells #[.int .i64 0, .string ⟨#[]⟩, .string ⟨#[]⟩, .int .u8 0, .string ⟨#[]⟩, .string ⟨#[]⟩, .int .i64 0, .string ⟨#[]⟩] 32))
 have HS : Hid (Blk W w.heap.size 32 #[.int .i64 4, .string el, .string at_, .int .u8 dl, .string pe, .string rf, .int .i64 pa, .string wd]) := hid (by rw [<- hW]; exact (Blk.new w _ _).alloc _)
 have HR : Hid (Blk W (w.heap.size + 1) 32 #[.int .i64 0, .string ⟨#[]⟩, .string ⟨#[]⟩, .int .u8 0, .string ⟨#[]⟩, .string ⟨#[]⟩, .int .i64 0, .string ⟨#[]⟩]) := hid (by rw [<- hW]; exact Blk.new_at _ _ (by simp) _ _)
 have HbW : Hid (Below w.heap.size w W) := hid (by rw [<- hW]; go_grown)
 obtain ⟨pt, hpt⟩ := xE w.heap.size
 have hlt2 := HR.out.lt
 have hlt1 := HS.out.lt
 rw [hpt] at HS HR hlt1 hlt2
 have hsz : Hid (W.heap.size = pt + 2) := hid (by rw [<- hW, <- hpt]; simp)
 obtain ⟨⟨c0, c1, c2, c3, c4, c5, c6, c7⟩, f0, f1, f2, f3, f4, f5, f6, f7⟩ := st_cells HS.out
 obtain ⟨⟨d0, d1, d2, d3, d4, d5, d6, d7⟩, g0, g1, g2, g3, g4, g5, g6, g7⟩ := st_cells HR.out
 go_enter Tryz.func100, Tryz.ntmps100
 go_upto_region 3 with (go_at_call 37; refine (HB.out _).mono ?_; rintro e w1 ⟨rfl, rfl⟩)
 clear hW HB
 go_wp2_with (first
  | (go_at_call 117; refine (HW.out _ _ ?ca ?cb _).mono ?_; (case ca => first | exact h0 | decide); (case cb => first | exact h1 | decide); rintro e w2 ⟨k2, el2, at2, dl2, pe2, rf2, pa2, wd2, er, rfl, ok2, hb2⟩; have HR2 := hid (HR.out.below hb2 hlt2); have Hb2 : Hid (Below w.heap.size w w2) := hid (HbW.out.trans (hb2.mono HbW.out.size)); clear c0 c1 c2 c3 c4 c5 c6 c7 f0 f1 f2 f3 f4 f5 f6 f7; clear d0 d1 d2 d3 d4 d5 d6 d7 g0 g1 g2 g3 g4 g5 g6 g7; obtain ⟨⟨d0, d1, d2, d3, d4, d5, d6, d7⟩, g0, g1, g2, g3, g4, g5, g6, g7⟩ := st_cells HR2.out; have hl22 := HR2.out.lt)
  | (go_at_call 118; refine (HE.out _ _).mono ?_; rintro e w2 ⟨k2, el2, at2, dl2, pe2, rf2, pa2, wd2, er, rfl, ok2, hb2⟩; have HR2 := hid (HR.out.below hb2 hlt2); have Hb2 : Hid (Below w.heap.size w w2) := hid (HbW.out.trans (hb2.mono HbW.out.size)); clear c0 c1 c2 c3 c4 c5 c6 c7 f0 f1 f2 f3 f4 f5 f6 f7; clear d0 d1 d2 d3 d4 d5 d6 d7 g0 g1 g2 g3 g4 g5 g6 g7; obtain ⟨⟨d0, d1, d2, d3, d4, d5, d6, d7⟩, g0, g1, g2, g3, g4, g5, g6, g7⟩ := st_cells HR2.out; have hl22 := HR2.out.lt)
  | (go_at_call 115; refine (HC.out _ _ ?ca ?cb _).mono ?_; (case ca => first | exact h0 | decide); (case cb => first | exact h1 | decide); rintro e w2 ⟨k2, el2, at2, dl2, pe2, rf2, pa2, wd2, er, rfl, ok2, hb2⟩; have HR2 := hid ((HR.out.far (p := ⟨pt, 0, none⟩) (by simp) _).below hb2 (by simpa using hlt2)); have Hb2 : Hid (Below w.heap.size w w2) := hid ((HbW.out.setCell (p := ⟨pt, 0, none⟩) (Nat.le_of_eq hpt) _).trans (hb2.mono (HbW.out.setCell (p := ⟨pt, 0, none⟩) (Nat.le_of_eq hpt) _).size)); clear c0 c1 c2 c3 c4 c5 c6 c7 f0 f1 f2 f3 f4 f5 f6 f7; clear d0 d1 d2 d3 d4 d5 d6 d7 g0 g1 g2 g3 g4 g5 g6 g7; obtain ⟨⟨d0, d1, d2, d3, d4, d5, d6, d7⟩, g0, g1, g2, g3, g4, g5, g6, g7⟩ := st_cells HR2.out; have hl22 := HR2.out.lt))
 all_goals first
  | (
   (try simp only [Exit.inBlock, Exit.then]);refine rc1 (pt + 1) (st_put HR2.out) ?_;exact ⟨_, _, _, _, _, _, _, _, _, rfl, ok2, Hb2.out.trans (st_put_below (by omega))⟩
   done)
  | (
   (try simp only [Exit.inBlock, Exit.then]);refine rc1 (pt + 1) (st_put HR.out) ?_;exact ⟨_, _, _, _, _, _, _, _, _, rfl, hok, HbW.out.trans (st_put_below (by omega))⟩
   done)
  | (
   (try simp only [Exit.inBlock, Exit.then]);refine rc1 (pt + 1) (st_put (HR.out.far (p := ⟨pt, 0, none⟩) (by simp) _)) ?_;exact ⟨_, _, _, _, _, _, _, _, _, rfl, hok, (HbW.out.setCell (p := ⟨pt, 0, none⟩) (Nat.le_of_eq hpt) _).trans (st_put_below (by omega))⟩
   done)
  | (
   (try simp only [Exit.inBlock, Exit.then]);refine rc1 (pt + 1) (st_put ((HR.out.far (p := ⟨pt, 0, none⟩) (by simp) _).far (p := ⟨pt, 3, none⟩) (by simp) _)) ?_;exact ⟨_, _, _, _, _, _, _, _, _, rfl, hok, ((HbW.out.setCell (p := ⟨pt, 0, none⟩) (Nat.le_of_eq hpt) _).setCell (p := ⟨pt, 3, none⟩) (Nat.le_of_eq hpt) _).trans (st_put_below (by omega))⟩
   done)
  | skip
 clear HW HC HE
 go_region_with (go_at_call 116; refine (HL.out _).mono ?_; rintro e w3 ⟨t, rfl, ht, hb3⟩; have HS3 := hid (HS.out.drew.below hb3 hlt1); have HR3 := hid (HR.out.drew.below hb3 hlt2); have Hb3 : Hid (Below w.heap.size w w3) := hid (HbW.out.drew.trans (hb3.mono (by simpa using HbW.out.size))); clear HR; clear c0 c1 c2 c3 c4 c5 c6 c7 f0 f1 f2 f3 f4 f5 f6 f7; clear d0 d1 d2 d3 d4 d5 d6 d7 g0 g1 g2 g3 g4 g5 g6 g7; obtain ⟨⟨c0, c1, c2, c3, c4, c5, c6, c7⟩, f0, f1, f2, f3, f4, f5, f6, f7⟩ := st_cells HS3.out; obtain ⟨⟨d0, d1, d2, d3, d4, d5, d6, d7⟩, g0, g1, g2, g3, g4, g5, g6, g7⟩ := st_cells HR3.out)
 all_goals (
  go_wp2
  (try simp only [Exit.inBlock, Exit.then]);refine rc1 (pt + 1) (st_put (HR3.out.far (p := ⟨pt, 1, none⟩) (by simp) _)) ?_;exact ⟨_, _, _, _, _, _, _, _, _, rfl, st_el1 hok' ht, (Hb3.out.setCell (p := ⟨pt, 1, none⟩) (Nat.le_of_eq hpt) _).trans (st_put_below (by omega))⟩)
theorem tag5_any (el at_ : ByteArray) (dl : Int) (pe rf : ByteArray) (pa : Int) (wd : ByteArray) (c : Int) (h0 : 0 <= c) (h1 : c <= 255) (m : Nat) (w : World) (hm : 16 <= m) (hm2 : m <= 1048575) (hok' : StOk m el at_ pe rf wd) : Calls Tryz.prog 100 #[.agg #[.int .i64 5, .string el, .string at_, .int .u8 dl, .string pe, .string rf, .int .i64 pa, .string wd], .int .u8 c] w (PSt (m + 1) w) := by
 have hok := hok'.mono (Nat.le_succ m)
 have HB := hid (fun W => refBlank_any c h0 h1 W)
 obtain ⟨b1, hb1⟩ := xE (isBlank (bOf c))
 rw [hb1] at HB
 clear hb1
 have HL := hid (fun W => low17_any c h0 h1 W)
 have HW := hid (fun k c h0 h1 W => within_any k el at_ dl pe rf pa wd c h0 h1 (m + 1) W (by omega) hok)
 have HC := hid (fun k c h0 h1 W => char_any k el at_ dl pe rf pa wd c h0 h1 m W hm hm2 hok')
 have HE := hid (fun k W => end17_any k el at_ dl pe rf pa wd (m + 1) W hok)
 have hez : el.size <= 1048576 := Nat.le_trans hok.1 (by omega)
 have haz : at_.size <= 1048576 := Nat.le_trans hok.2.1 (by omega)
 obtain ⟨W, hW⟩ := xE ((w.alloc (.cells #[.int .i64 5, .string el, .string at_, .int .u8 dl, .string pe, .string rf, .int .i64 pa, .string wd] 32)).alloc (.cells #[.int .i64 0, .string ⟨#[]⟩, .string ⟨#[]⟩, .int .u8 0, .string ⟨#[]⟩, .string ⟨#[]⟩, .int .i64 0, .string ⟨#[]⟩] 32))
 have HS : Hid (Blk W w.heap.size 32 #[.int .i64 5, .string el, .string at_, .int .u8 dl, .string pe, .string rf, .int .i64 pa, .string wd]) := hid (by rw [<- hW]; exact (Blk.new w _ _).alloc _)
 have HR : Hid (Blk W (w.heap.size + 1) 32 #[.int .i64 0, .string ⟨#[]⟩, .string ⟨#[]⟩, .int .u8 0, .string ⟨#[]⟩, .string ⟨#[]⟩, .int .i64 0, .string ⟨#[]⟩]) := hid (by rw [<- hW]; exact Blk.new_at _ _ (by simp) _ _)
 have HbW : Hid (Below w.heap.size w W) := hid (by rw [<- hW]; go_grown)
 obtain ⟨pt, hpt⟩ := xE w.heap.size
 have hlt2 := HR.out.lt
 have hlt1 := HS.out.lt
 rw [hpt] at HS HR hlt1 hlt2
 have hsz : Hid (W.heap.size = pt + 2) := hid (by rw [<- hW, <- hpt]; simp)
 obtain ⟨⟨c0, c1, c2, c3, c4, c5, c6, c7⟩, f0, f1, f2, f3, f4, f5, f6, f7⟩ := st_cells HS.out
 obtain ⟨⟨d0, d1, d2, d3, d4, d5, d6, d7⟩, g0, g1, g2, g3, g4, g5, g6, g7⟩ := st_cells HR.out
 go_enter Tryz.func100, Tryz.ntmps100
 go_upto_region 3 with (go_at_call 37; refine (HB.out _).mono ?_; rintro e w1 ⟨rfl, rfl⟩)
 clear hW HB
 go_wp2_with (first
  | (go_at_call 117; refine (HW.out _ _ ?ca ?cb _).mono ?_; (case ca => first | exact h0 | decide); (case cb => first | exact h1 | decide); rintro e w2 ⟨k2, el2, at2, dl2, pe2, rf2, pa2, wd2, er, rfl, ok2, hb2⟩; have HR2 := hid (HR.out.below hb2 hlt2); have Hb2 : Hid (Below w.heap.size w w2) := hid (HbW.out.trans (hb2.mono HbW.out.size)); clear c0 c1 c2 c3 c4 c5 c6 c7 f0 f1 f2 f3 f4 f5 f6 f7; clear d0 d1 d2 d3 d4 d5 d6 d7 g0 g1 g2 g3 g4 g5 g6 g7; obtain ⟨⟨d0, d1, d2, d3, d4, d5, d6, d7⟩, g0, g1, g2, g3, g4, g5, g6, g7⟩ := st_cells HR2.out; have hl22 := HR2.out.lt)
  | (go_at_call 118; refine (HE.out _ _).mono ?_; rintro e w2 ⟨k2, el2, at2, dl2, pe2, rf2, pa2, wd2, er, rfl, ok2, hb2⟩; have HR2 := hid (HR.out.below hb2 hlt2); have Hb2 : Hid (Below w.heap.size w w2) := hid (HbW.out.trans (hb2.mono HbW.out.size)); clear c0 c1 c2 c3 c4 c5 c6 c7 f0 f1 f2 f3 f4 f5 f6 f7; clear d0 d1 d2 d3 d4 d5 d6 d7 g0 g1 g2 g3 g4 g5 g6 g7; obtain ⟨⟨d0, d1, d2, d3, d4, d5, d6, d7⟩, g0, g1, g2, g3, g4, g5, g6, g7⟩ := st_cells HR2.out; have hl22 := HR2.out.lt)
  | (go_at_call 115; refine (HC.out _ _ ?ca ?cb _).mono ?_; (case ca => first | exact h0 | decide); (case cb => first | exact h1 | decide); rintro e w2 ⟨k2, el2, at2, dl2, pe2, rf2, pa2, wd2, er, rfl, ok2, hb2⟩; have HR2 := hid ((HR.out.far (p := ⟨pt, 0, none⟩) (by simp) _).below hb2 (by simpa using hlt2)); have Hb2 : Hid (Below w.heap.size w w2) := hid ((HbW.out.setCell (p := ⟨pt, 0, none⟩) (Nat.le_of_eq hpt) _).trans (hb2.mono (HbW.out.setCell (p := ⟨pt, 0, none⟩) (Nat.le_of_eq hpt) _).size)); clear c0 c1 c2 c3 c4 c5 c6 c7 f0 f1 f2 f3 f4 f5 f6 f7; clear d0 d1 d2 d3 d4 d5 d6 d7 g0 g1 g2 g3 g4 g5 g6 g7; obtain ⟨⟨d0, d1, d2, d3, d4, d5, d6, d7⟩, g0, g1, g2, g3, g4, g5, g6, g7⟩ := st_cells HR2.out; have hl22 := HR2.out.lt))
 all_goals first
  | (
   (try simp only [Exit.inBlock, Exit.then]);refine rc1 (pt + 1) (st_put HR2.out) ?_;exact ⟨_, _, _, _, _, _, _, _, _, rfl, ok2, Hb2.out.trans (st_put_below (by omega))⟩
   done)
  | (
   (try simp only [Exit.inBlock, Exit.then]);refine rc1 (pt + 1) (st_put HR.out) ?_;exact ⟨_, _, _, _, _, _, _, _, _, rfl, hok, HbW.out.trans (st_put_below (by omega))⟩
   done)
  | (
   (try simp only [Exit.inBlock, Exit.then]);refine rc1 (pt + 1) (st_put (HR.out.far (p := ⟨pt, 0, none⟩) (by simp) _)) ?_;exact ⟨_, _, _, _, _, _, _, _, _, rfl, hok, (HbW.out.setCell (p := ⟨pt, 0, none⟩) (Nat.le_of_eq hpt) _).trans (st_put_below (by omega))⟩
   done)
  | (
   (try simp only [Exit.inBlock, Exit.then]);refine rc1 (pt + 1) (st_put ((HR.out.far (p := ⟨pt, 0, none⟩) (by simp) _).far (p := ⟨pt, 3, none⟩) (by simp) _)) ?_;exact ⟨_, _, _, _, _, _, _, _, _, rfl, hok, ((HbW.out.setCell (p := ⟨pt, 0, none⟩) (Nat.le_of_eq hpt) _).setCell (p := ⟨pt, 3, none⟩) (Nat.le_of_eq hpt) _).trans (st_put_below (by omega))⟩
   done)
  | skip
theorem tag6_any (el at_ : ByteArray) (dl : Int) (pe rf : ByteArray) (pa : Int) (wd : ByteArray) (c : Int) (h0 : 0 <= c) (h1 : c <= 255) (m : Nat) (w : World) (hm : 16 <= m) (hm2 : m <= 1048575) (hok' : StOk m el at_ pe rf wd) : Calls Tryz.prog 100 #[.agg #[.int .i64 6, .string el, .string at_, .int .u8 dl, .string pe, .string rf, .int .i64 pa, .string wd], .int .u8 c] w (PSt (m + 1) w) := by
 have hok := hok'.mono (Nat.le_succ m)
 have HB := hid (fun W => refBlank_any c h0 h1 W)
 obtain ⟨b1, hb1⟩ := xE (isBlank (bOf c))
 rw [hb1] at HB
 clear hb1
 have HL := hid (fun W => low17_any c h0 h1 W)
 have HW := hid (fun k c h0 h1 W => within_any k el at_ dl pe rf pa wd c h0 h1 (m + 1) W (by omega) hok)
 have HC := hid (fun k c h0 h1 W => char_any k el at_ dl pe rf pa wd c h0 h1 m W hm hm2 hok')
 have HE := hid (fun k W => end17_any k el at_ dl pe rf pa wd (m + 1) W hok)
 have hez : el.size <= 1048576 := Nat.le_trans hok.1 (by omega)
 have haz : at_.size <= 1048576 := Nat.le_trans hok.2.1 (by omega)
 obtain ⟨W, hW⟩ := xE ((w.alloc (.cells #[.int .i64 6, .string el, .string at_, .int .u8 dl, .string pe, .string rf, .int .i64 pa, .string wd] 32)).alloc (.cells #[.int .i64 0, .string ⟨#[]⟩, .string ⟨#[]⟩, .int .u8 0, .string ⟨#[]⟩, .string ⟨#[]⟩, .int .i64 0, .string ⟨#[]⟩] 32))
 have HS : Hid (Blk W w.heap.size 32 #[.int .i64 6, .string el, .string at_, .int .u8 dl, .string pe, .string rf, .int .i64 pa, .string wd]) := hid (by rw [<- hW]; exact (Blk.new w _ _).alloc _)
 have HR : Hid (Blk W (w.heap.size + 1) 32 #[.int .i64 0, .string ⟨#[]⟩, .string ⟨#[]⟩, .int .u8 0, .string ⟨#[]⟩, .string ⟨#[]⟩, .int .i64 0, .string ⟨#[]⟩]) := hid (by rw [<- hW]; exact Blk.new_at _ _ (by simp) _ _)
 have HbW : Hid (Below w.heap.size w W) := hid (by rw [<- hW]; go_grown)
 obtain ⟨pt, hpt⟩ := xE w.heap.size
 have hlt2 := HR.out.lt
 have hlt1 := HS.out.lt
 rw [hpt] at HS HR hlt1 hlt2
 have hsz : Hid (W.heap.size = pt + 2) := hid (by rw [<- hW, <- hpt]; simp)
 obtain ⟨⟨c0, c1, c2, c3, c4, c5, c6, c7⟩, f0, f1, f2, f3, f4, f5, f6, f7⟩ := st_cells HS.out
 obtain ⟨⟨d0, d1, d2, d3, d4, d5, d6, d7⟩, g0, g1, g2, g3, g4, g5, g6, g7⟩ := st_cells HR.out
 go_enter Tryz.func100, Tryz.ntmps100
 go_upto_region 3 with (go_at_call 37; refine (HB.out _).mono ?_; rintro e w1 ⟨rfl, rfl⟩)
 clear hW HB
 go_wp2_with (first
  | (go_at_call 117; refine (HW.out _ _ ?ca ?cb _).mono ?_; (case ca => first | exact h0 | decide); (case cb => first | exact h1 | decide); rintro e w2 ⟨k2, el2, at2, dl2, pe2, rf2, pa2, wd2, er, rfl, ok2, hb2⟩; have HR2 := hid (HR.out.below hb2 hlt2); have Hb2 : Hid (Below w.heap.size w w2) := hid (HbW.out.trans (hb2.mono HbW.out.size)); clear c0 c1 c2 c3 c4 c5 c6 c7 f0 f1 f2 f3 f4 f5 f6 f7; clear d0 d1 d2 d3 d4 d5 d6 d7 g0 g1 g2 g3 g4 g5 g6 g7; obtain ⟨⟨d0, d1, d2, d3, d4, d5, d6, d7⟩, g0, g1, g2, g3, g4, g5, g6, g7⟩ := st_cells HR2.out; have hl22 := HR2.out.lt)
  | (go_at_call 118; refine (HE.out _ _).mono ?_; rintro e w2 ⟨k2, el2, at2, dl2, pe2, rf2, pa2, wd2, er, rfl, ok2, hb2⟩; have HR2 := hid (HR.out.below hb2 hlt2); have Hb2 : Hid (Below w.heap.size w w2) := hid (HbW.out.trans (hb2.mono HbW.out.size)); clear c0 c1 c2 c3 c4 c5 c6 c7 f0 f1 f2 f3 f4 f5 f6 f7; clear d0 d1 d2 d3 d4 d5 d6 d7 g0 g1 g2 g3 g4 g5 g6 g7; obtain ⟨⟨d0, d1, d2, d3, d4, d5, d6, d7⟩, g0, g1, g2, g3, g4, g5, g6, g7⟩ := st_cells HR2.out; have hl22 := HR2.out.lt)
  | (go_at_call 115; refine (HC.out _ _ ?ca ?cb _).mono ?_; (case ca => first | exact h0 | decide); (case cb => first | exact h1 | decide); rintro e w2 ⟨k2, el2, at2, dl2, pe2, rf2, pa2, wd2, er, rfl, ok2, hb2⟩; have HR2 := hid ((HR.out.far (p := ⟨pt, 0, none⟩) (by simp) _).below hb2 (by simpa using hlt2)); have Hb2 : Hid (Below w.heap.size w w2) := hid ((HbW.out.setCell (p := ⟨pt, 0, none⟩) (Nat.le_of_eq hpt) _).trans (hb2.mono (HbW.out.setCell (p := ⟨pt, 0, none⟩) (Nat.le_of_eq hpt) _).size)); clear c0 c1 c2 c3 c4 c5 c6 c7 f0 f1 f2 f3 f4 f5 f6 f7; clear d0 d1 d2 d3 d4 d5 d6 d7 g0 g1 g2 g3 g4 g5 g6 g7; obtain ⟨⟨d0, d1, d2, d3, d4, d5, d6, d7⟩, g0, g1, g2, g3, g4, g5, g6, g7⟩ := st_cells HR2.out; have hl22 := HR2.out.lt))
 all_goals first
  | (
   (try simp only [Exit.inBlock, Exit.then]);refine rc1 (pt + 1) (st_put HR2.out) ?_;exact ⟨_, _, _, _, _, _, _, _, _, rfl, ok2, Hb2.out.trans (st_put_below (by omega))⟩
   done)
  | (
   (try simp only [Exit.inBlock, Exit.then]);refine rc1 (pt + 1) (st_put HR.out) ?_;exact ⟨_, _, _, _, _, _, _, _, _, rfl, hok, HbW.out.trans (st_put_below (by omega))⟩
   done)
  | (
   (try simp only [Exit.inBlock, Exit.then]);refine rc1 (pt + 1) (st_put (HR.out.far (p := ⟨pt, 0, none⟩) (by simp) _)) ?_;exact ⟨_, _, _, _, _, _, _, _, _, rfl, hok, (HbW.out.setCell (p := ⟨pt, 0, none⟩) (Nat.le_of_eq hpt) _).trans (st_put_below (by omega))⟩
   done)
  | (
   (try simp only [Exit.inBlock, Exit.then]);refine rc1 (pt + 1) (st_put ((HR.out.far (p := ⟨pt, 0, none⟩) (by simp) _).far (p := ⟨pt, 3, none⟩) (by simp) _)) ?_;exact ⟨_, _, _, _, _, _, _, _, _, rfl, hok, ((HbW.out.setCell (p := ⟨pt, 0, none⟩) (Nat.le_of_eq hpt) _).setCell (p := ⟨pt, 3, none⟩) (Nat.le_of_eq hpt) _).trans (st_put_below (by omega))⟩
   done)
  | skip
 clear HW HC HE
 go_region_with (go_at_call 116; refine (HL.out _).mono ?_; rintro e w3 ⟨t, rfl, ht, hb3⟩; have HS3 := hid (HS.out.drew.below hb3 hlt1); have HR3 := hid (HR.out.drew.below hb3 hlt2); have Hb3 : Hid (Below w.heap.size w w3) := hid (HbW.out.drew.trans (hb3.mono (by simpa using HbW.out.size))); clear HR; clear c0 c1 c2 c3 c4 c5 c6 c7 f0 f1 f2 f3 f4 f5 f6 f7; clear d0 d1 d2 d3 d4 d5 d6 d7 g0 g1 g2 g3 g4 g5 g6 g7; obtain ⟨⟨c0, c1, c2, c3, c4, c5, c6, c7⟩, f0, f1, f2, f3, f4, f5, f6, f7⟩ := st_cells HS3.out; obtain ⟨⟨d0, d1, d2, d3, d4, d5, d6, d7⟩, g0, g1, g2, g3, g4, g5, g6, g7⟩ := st_cells HR3.out)
 all_goals (
  go_wp2
  (try simp only [Exit.inBlock, Exit.then]);refine rc1 (pt + 1) (st_put (HR3.out.far (p := ⟨pt, 2, none⟩) (by simp) _)) ?_;exact ⟨_, _, _, _, _, _, _, _, _, rfl, st_at1 hok' ht, (Hb3.out.setCell (p := ⟨pt, 2, none⟩) (Nat.le_of_eq hpt) _).trans (st_put_below (by omega))⟩)
theorem tag7_any (el at_ : ByteArray) (dl : Int) (pe rf : ByteArray) (pa : Int) (wd : ByteArray) (c : Int) (h0 : 0 <= c) (h1 : c <= 255) (m : Nat) (w : World) (hm : 16 <= m) (hm2 : m <= 1048575) (hok' : StOk m el at_ pe rf wd) : Calls Tryz.prog 100 #[.agg #[.int .i64 7, .string el, .string at_, .int .u8 dl, .string pe, .string rf, .int .i64 pa, .string wd], .int .u8 c] w (PSt (m + 1) w) := by
 have hok := hok'.mono (Nat.le_succ m)
 have HB := hid (fun W => refBlank_any c h0 h1 W)
 obtain ⟨b1, hb1⟩ := xE (isBlank (bOf c))
 rw [hb1] at HB
 clear hb1
 have HL := hid (fun W => low17_any c h0 h1 W)
 have HW := hid (fun k c h0 h1 W => within_any k el at_ dl pe rf pa wd c h0 h1 (m + 1) W (by omega) hok)
 have HC := hid (fun k c h0 h1 W => char_any k el at_ dl pe rf pa wd c h0 h1 m W hm hm2 hok')
 have HE := hid (fun k W => end17_any k el at_ dl pe rf pa wd (m + 1) W hok)
 have hez : el.size <= 1048576 := Nat.le_trans hok.1 (by omega)
 have haz : at_.size <= 1048576 := Nat.le_trans hok.2.1 (by omega)
 obtain ⟨W, hW⟩ := xE ((w.alloc (.cells #[.int .i64 7, .string el, .string at_, .int .u8 dl, .string pe, .string rf, .int .i64 pa, .string wd] 32)).alloc (.cells #[.int .i64 0, .string ⟨#[]⟩, .string ⟨#[]⟩, .int .u8 0, .string ⟨#[]⟩, .string ⟨#[]⟩, .int .i64 0, .string ⟨#[]⟩] 32))
 have HS : Hid (Blk W w.heap.size 32 #[.int .i64 7, .string el, .string at_, .int .u8 dl, .string pe, .string rf, .int .i64 pa, .string wd]) := hid (by rw [<- hW]; exact (Blk.new w _ _).alloc _)
 have HR : Hid (Blk W (w.heap.size + 1) 32 #[.int .i64 0, .string ⟨#[]⟩, .string ⟨#[]⟩, .int .u8 0, .string ⟨#[]⟩, .string ⟨#[]⟩, .int .i64 0, .string ⟨#[]⟩]) := hid (by rw [<- hW]; exact Blk.new_at _ _ (by simp) _ _)
 have HbW : Hid (Below w.heap.size w W) := hid (by rw [<- hW]; go_grown)
 obtain ⟨pt, hpt⟩ := xE w.heap.size
 have hlt2 := HR.out.lt
 have hlt1 := HS.out.lt
 rw [hpt] at HS HR hlt1 hlt2
 have hsz : Hid (W.heap.size = pt + 2) := hid (by rw [<- hW, <- hpt]; simp)
 obtain ⟨⟨c0, c1, c2, c3, c4, c5, c6, c7⟩, f0, f1, f2, f3, f4, f5, f6, f7⟩ := st_cells HS.out
 obtain ⟨⟨d0, d1, d2, d3, d4, d5, d6, d7⟩, g0, g1, g2, g3, g4, g5, g6, g7⟩ := st_cells HR.out
 go_enter Tryz.func100, Tryz.ntmps100
 go_upto_region 3 with (go_at_call 37; refine (HB.out _).mono ?_; rintro e w1 ⟨rfl, rfl⟩)
 clear hW HB
 go_wp2_with (first
  | (go_at_call 117; refine (HW.out _ _ ?ca ?cb _).mono ?_; (case ca => first | exact h0 | decide); (case cb => first | exact h1 | decide); rintro e w2 ⟨k2, el2, at2, dl2, pe2, rf2, pa2, wd2, er, rfl, ok2, hb2⟩; have HR2 := hid (HR.out.below hb2 hlt2); have Hb2 : Hid (Below w.heap.size w w2) := hid (HbW.out.trans (hb2.mono HbW.out.size)); clear c0 c1 c2 c3 c4 c5 c6 c7 f0 f1 f2 f3 f4 f5 f6 f7; clear d0 d1 d2 d3 d4 d5 d6 d7 g0 g1 g2 g3 g4 g5 g6 g7; obtain ⟨⟨d0, d1, d2, d3, d4, d5, d6, d7⟩, g0, g1, g2, g3, g4, g5, g6, g7⟩ := st_cells HR2.out; have hl22 := HR2.out.lt)
  | (go_at_call 118; refine (HE.out _ _).mono ?_; rintro e w2 ⟨k2, el2, at2, dl2, pe2, rf2, pa2, wd2, er, rfl, ok2, hb2⟩; have HR2 := hid (HR.out.below hb2 hlt2); have Hb2 : Hid (Below w.heap.size w w2) := hid (HbW.out.trans (hb2.mono HbW.out.size)); clear c0 c1 c2 c3 c4 c5 c6 c7 f0 f1 f2 f3 f4 f5 f6 f7; clear d0 d1 d2 d3 d4 d5 d6 d7 g0 g1 g2 g3 g4 g5 g6 g7; obtain ⟨⟨d0, d1, d2, d3, d4, d5, d6, d7⟩, g0, g1, g2, g3, g4, g5, g6, g7⟩ := st_cells HR2.out; have hl22 := HR2.out.lt)
  | (go_at_call 115; refine (HC.out _ _ ?ca ?cb _).mono ?_; (case ca => first | exact h0 | decide); (case cb => first | exact h1 | decide); rintro e w2 ⟨k2, el2, at2, dl2, pe2, rf2, pa2, wd2, er, rfl, ok2, hb2⟩; have HR2 := hid ((HR.out.far (p := ⟨pt, 0, none⟩) (by simp) _).below hb2 (by simpa using hlt2)); have Hb2 : Hid (Below w.heap.size w w2) := hid ((HbW.out.setCell (p := ⟨pt, 0, none⟩) (Nat.le_of_eq hpt) _).trans (hb2.mono (HbW.out.setCell (p := ⟨pt, 0, none⟩) (Nat.le_of_eq hpt) _).size)); clear c0 c1 c2 c3 c4 c5 c6 c7 f0 f1 f2 f3 f4 f5 f6 f7; clear d0 d1 d2 d3 d4 d5 d6 d7 g0 g1 g2 g3 g4 g5 g6 g7; obtain ⟨⟨d0, d1, d2, d3, d4, d5, d6, d7⟩, g0, g1, g2, g3, g4, g5, g6, g7⟩ := st_cells HR2.out; have hl22 := HR2.out.lt))
 all_goals first
  | (
   (try simp only [Exit.inBlock, Exit.then]);refine rc1 (pt + 1) (st_put HR2.out) ?_;exact ⟨_, _, _, _, _, _, _, _, _, rfl, ok2, Hb2.out.trans (st_put_below (by omega))⟩
   done)
  | (
   (try simp only [Exit.inBlock, Exit.then]);refine rc1 (pt + 1) (st_put HR.out) ?_;exact ⟨_, _, _, _, _, _, _, _, _, rfl, hok, HbW.out.trans (st_put_below (by omega))⟩
   done)
  | (
   (try simp only [Exit.inBlock, Exit.then]);refine rc1 (pt + 1) (st_put (HR.out.far (p := ⟨pt, 0, none⟩) (by simp) _)) ?_;exact ⟨_, _, _, _, _, _, _, _, _, rfl, hok, (HbW.out.setCell (p := ⟨pt, 0, none⟩) (Nat.le_of_eq hpt) _).trans (st_put_below (by omega))⟩
   done)
  | (
   (try simp only [Exit.inBlock, Exit.then]);refine rc1 (pt + 1) (st_put ((HR.out.far (p := ⟨pt, 0, none⟩) (by simp) _).far (p := ⟨pt, 3, none⟩) (by simp) _)) ?_;exact ⟨_, _, _, _, _, _, _, _, _, rfl, hok, ((HbW.out.setCell (p := ⟨pt, 0, none⟩) (Nat.le_of_eq hpt) _).setCell (p := ⟨pt, 3, none⟩) (Nat.le_of_eq hpt) _).trans (st_put_below (by omega))⟩
   done)
  | skip
theorem tag8_any (el at_ : ByteArray) (dl : Int) (pe rf : ByteArray) (pa : Int) (wd : ByteArray) (c : Int) (h0 : 0 <= c) (h1 : c <= 255) (m : Nat) (w : World) (hm : 16 <= m) (hm2 : m <= 1048575) (hok' : StOk m el at_ pe rf wd) : Calls Tryz.prog 100 #[.agg #[.int .i64 8, .string el, .string at_, .int .u8 dl, .string pe, .string rf, .int .i64 pa, .string wd], .int .u8 c] w (PSt (m + 1) w) := by
 have hok := hok'.mono (Nat.le_succ m)
 have HB := hid (fun W => refBlank_any c h0 h1 W)
 obtain ⟨b1, hb1⟩ := xE (isBlank (bOf c))
 rw [hb1] at HB
 clear hb1
 have HL := hid (fun W => low17_any c h0 h1 W)
 have HW := hid (fun k c h0 h1 W => within_any k el at_ dl pe rf pa wd c h0 h1 (m + 1) W (by omega) hok)
 have HC := hid (fun k c h0 h1 W => char_any k el at_ dl pe rf pa wd c h0 h1 m W hm hm2 hok')
 have HE := hid (fun k W => end17_any k el at_ dl pe rf pa wd (m + 1) W hok)
 have hez : el.size <= 1048576 := Nat.le_trans hok.1 (by omega)
 have haz : at_.size <= 1048576 := Nat.le_trans hok.2.1 (by omega)
 obtain ⟨W, hW⟩ := xE ((w.alloc (.cells #[.int .i64 8, .string el, .string at_, .int .u8 dl, .string pe, .string rf, .int .i64 pa, .string wd] 32)).alloc (.cells #[.int .i64 0, .string ⟨#[]⟩, .string ⟨#[]⟩, .int .u8 0, .string ⟨#[]⟩, .string ⟨#[]⟩, .int .i64 0, .string ⟨#[]⟩] 32))
 have HS : Hid (Blk W w.heap.size 32 #[.int .i64 8, .string el, .string at_, .int .u8 dl, .string pe, .string rf, .int .i64 pa, .string wd]) := hid (by rw [<- hW]; exact (Blk.new w _ _).alloc _)
 have HR : Hid (Blk W (w.heap.size + 1) 32 #[.int .i64 0, .string ⟨#[]⟩, .string ⟨#[]⟩, .int .u8 0, .string ⟨#[]⟩, .string ⟨#[]⟩, .int .i64 0, .string ⟨#[]⟩]) := hid (by rw [<- hW]; exact Blk.new_at _ _ (by simp) _ _)
 have HbW : Hid (Below w.heap.size w W) := hid (by rw [<- hW]; go_grown)
 obtain ⟨pt, hpt⟩ := xE w.heap.size
 have hlt2 := HR.out.lt
 have hlt1 := HS.out.lt
 rw [hpt] at HS HR hlt1 hlt2
 have hsz : Hid (W.heap.size = pt + 2) := hid (by rw [<- hW, <- hpt]; simp)
 obtain ⟨⟨c0, c1, c2, c3, c4, c5, c6, c7⟩, f0, f1, f2, f3, f4, f5, f6, f7⟩ := st_cells HS.out
 obtain ⟨⟨d0, d1, d2, d3, d4, d5, d6, d7⟩, g0, g1, g2, g3, g4, g5, g6, g7⟩ := st_cells HR.out
 go_enter Tryz.func100, Tryz.ntmps100
 go_upto_region 3 with (go_at_call 37; refine (HB.out _).mono ?_; rintro e w1 ⟨rfl, rfl⟩)
 clear hW HB
 go_wp2_with (first
  | (go_at_call 117; refine (HW.out _ _ ?ca ?cb _).mono ?_; (case ca => first | exact h0 | decide); (case cb => first | exact h1 | decide); rintro e w2 ⟨k2, el2, at2, dl2, pe2, rf2, pa2, wd2, er, rfl, ok2, hb2⟩; have HR2 := hid (HR.out.below hb2 hlt2); have Hb2 : Hid (Below w.heap.size w w2) := hid (HbW.out.trans (hb2.mono HbW.out.size)); clear c0 c1 c2 c3 c4 c5 c6 c7 f0 f1 f2 f3 f4 f5 f6 f7; clear d0 d1 d2 d3 d4 d5 d6 d7 g0 g1 g2 g3 g4 g5 g6 g7; obtain ⟨⟨d0, d1, d2, d3, d4, d5, d6, d7⟩, g0, g1, g2, g3, g4, g5, g6, g7⟩ := st_cells HR2.out; have hl22 := HR2.out.lt)
  | (go_at_call 118; refine (HE.out _ _).mono ?_; rintro e w2 ⟨k2, el2, at2, dl2, pe2, rf2, pa2, wd2, er, rfl, ok2, hb2⟩; have HR2 := hid (HR.out.below hb2 hlt2); have Hb2 : Hid (Below w.heap.size w w2) := hid (HbW.out.trans (hb2.mono HbW.out.size)); clear c0 c1 c2 c3 c4 c5 c6 c7 f0 f1 f2 f3 f4 f5 f6 f7; clear d0 d1 d2 d3 d4 d5 d6 d7 g0 g1 g2 g3 g4 g5 g6 g7; obtain ⟨⟨d0, d1, d2, d3, d4, d5, d6, d7⟩, g0, g1, g2, g3, g4, g5, g6, g7⟩ := st_cells HR2.out; have hl22 := HR2.out.lt)
  | (go_at_call 115; refine (HC.out _ _ ?ca ?cb _).mono ?_; (case ca => first | exact h0 | decide); (case cb => first | exact h1 | decide); rintro e w2 ⟨k2, el2, at2, dl2, pe2, rf2, pa2, wd2, er, rfl, ok2, hb2⟩; have HR2 := hid ((HR.out.far (p := ⟨pt, 0, none⟩) (by simp) _).below hb2 (by simpa using hlt2)); have Hb2 : Hid (Below w.heap.size w w2) := hid ((HbW.out.setCell (p := ⟨pt, 0, none⟩) (Nat.le_of_eq hpt) _).trans (hb2.mono (HbW.out.setCell (p := ⟨pt, 0, none⟩) (Nat.le_of_eq hpt) _).size)); clear c0 c1 c2 c3 c4 c5 c6 c7 f0 f1 f2 f3 f4 f5 f6 f7; clear d0 d1 d2 d3 d4 d5 d6 d7 g0 g1 g2 g3 g4 g5 g6 g7; obtain ⟨⟨d0, d1, d2, d3, d4, d5, d6, d7⟩, g0, g1, g2, g3, g4, g5, g6, g7⟩ := st_cells HR2.out; have hl22 := HR2.out.lt))
 all_goals first
  | (
   (try simp only [Exit.inBlock, Exit.then]);refine rc1 (pt + 1) (st_put HR2.out) ?_;exact ⟨_, _, _, _, _, _, _, _, _, rfl, ok2, Hb2.out.trans (st_put_below (by omega))⟩
   done)
  | (
   (try simp only [Exit.inBlock, Exit.then]);refine rc1 (pt + 1) (st_put HR.out) ?_;exact ⟨_, _, _, _, _, _, _, _, _, rfl, hok, HbW.out.trans (st_put_below (by omega))⟩
   done)
  | (
   (try simp only [Exit.inBlock, Exit.then]);refine rc1 (pt + 1) (st_put (HR.out.far (p := ⟨pt, 0, none⟩) (by simp) _)) ?_;exact ⟨_, _, _, _, _, _, _, _, _, rfl, hok, (HbW.out.setCell (p := ⟨pt, 0, none⟩) (Nat.le_of_eq hpt) _).trans (st_put_below (by omega))⟩
   done)
  | (
   (try simp only [Exit.inBlock, Exit.then]);refine rc1 (pt + 1) (st_put ((HR.out.far (p := ⟨pt, 0, none⟩) (by simp) _).far (p := ⟨pt, 3, none⟩) (by simp) _)) ?_;exact ⟨_, _, _, _, _, _, _, _, _, rfl, hok, ((HbW.out.setCell (p := ⟨pt, 0, none⟩) (Nat.le_of_eq hpt) _).setCell (p := ⟨pt, 3, none⟩) (Nat.le_of_eq hpt) _).trans (st_put_below (by omega))⟩
   done)
  | skip
theorem tag11_any (el at_ : ByteArray) (dl : Int) (pe rf : ByteArray) (pa : Int) (wd : ByteArray) (c : Int) (h0 : 0 <= c) (h1 : c <= 255) (m : Nat) (w : World) (hm : 16 <= m) (hm2 : m <= 1048575) (hok' : StOk m el at_ pe rf wd) : Calls Tryz.prog 100 #[.agg #[.int .i64 11, .string el, .string at_, .int .u8 dl, .string pe, .string rf, .int .i64 pa, .string wd], .int .u8 c] w (PSt (m + 1) w) := by
 have hok := hok'.mono (Nat.le_succ m)
 have HB := hid (fun W => refBlank_any c h0 h1 W)
 obtain ⟨b1, hb1⟩ := xE (isBlank (bOf c))
 rw [hb1] at HB
 clear hb1
 have HL := hid (fun W => low17_any c h0 h1 W)
 have HW := hid (fun k c h0 h1 W => within_any k el at_ dl pe rf pa wd c h0 h1 (m + 1) W (by omega) hok)
 have HC := hid (fun k c h0 h1 W => char_any k el at_ dl pe rf pa wd c h0 h1 m W hm hm2 hok')
 have HE := hid (fun k W => end17_any k el at_ dl pe rf pa wd (m + 1) W hok)
 have hez : el.size <= 1048576 := Nat.le_trans hok.1 (by omega)
 have haz : at_.size <= 1048576 := Nat.le_trans hok.2.1 (by omega)
 obtain ⟨W, hW⟩ := xE ((w.alloc (.cells #[.int .i64 11, .string el, .string at_, .int .u8 dl, .string pe, .string rf, .int .i64 pa, .string wd] 32)).alloc (.cells #[.int .i64 0, .string ⟨#[]⟩, .string ⟨#[]⟩, .int .u8 0, .string ⟨#[]⟩, .string ⟨#[]⟩, .int .i64 0, .string ⟨#[]⟩] 32))
 have HS : Hid (Blk W w.heap.size 32 #[.int .i64 11, .string el, .string at_, .int .u8 dl, .string pe, .string rf, .int .i64 pa, .string wd]) := hid (by rw [<- hW]; exact (Blk.new w _ _).alloc _)
 have HR : Hid (Blk W (w.heap.size + 1) 32 #[.int .i64 0, .string ⟨#[]⟩, .string ⟨#[]⟩, .int .u8 0, .string ⟨#[]⟩, .string ⟨#[]⟩, .int .i64 0, .string ⟨#[]⟩]) := hid (by rw [<- hW]; exact Blk.new_at _ _ (by simp) _ _)
 have HbW : Hid (Below w.heap.size w W) := hid (by rw [<- hW]; go_grown)
 obtain ⟨pt, hpt⟩ := xE w.heap.size
 have hlt2 := HR.out.lt
 have hlt1 := HS.out.lt
 rw [hpt] at HS HR hlt1 hlt2
 have hsz : Hid (W.heap.size = pt + 2) := hid (by rw [<- hW, <- hpt]; simp)
 obtain ⟨⟨c0, c1, c2, c3, c4, c5, c6, c7⟩, f0, f1, f2, f3, f4, f5, f6, f7⟩ := st_cells HS.out
 obtain ⟨⟨d0, d1, d2, d3, d4, d5, d6, d7⟩, g0, g1, g2, g3, g4, g5, g6, g7⟩ := st_cells HR.out
 go_enter Tryz.func100, Tryz.ntmps100
 go_upto_region 3 with (go_at_call 37; refine (HB.out _).mono ?_; rintro e w1 ⟨rfl, rfl⟩)
 clear hW HB
 go_wp2_with (first
  | (go_at_call 117; refine (HW.out _ _ ?ca ?cb _).mono ?_; (case ca => first | exact h0 | decide); (case cb => first | exact h1 | decide); rintro e w2 ⟨k2, el2, at2, dl2, pe2, rf2, pa2, wd2, er, rfl, ok2, hb2⟩; have HR2 := hid (HR.out.below hb2 hlt2); have Hb2 : Hid (Below w.heap.size w w2) := hid (HbW.out.trans (hb2.mono HbW.out.size)); clear c0 c1 c2 c3 c4 c5 c6 c7 f0 f1 f2 f3 f4 f5 f6 f7; clear d0 d1 d2 d3 d4 d5 d6 d7 g0 g1 g2 g3 g4 g5 g6 g7; obtain ⟨⟨d0, d1, d2, d3, d4, d5, d6, d7⟩, g0, g1, g2, g3, g4, g5, g6, g7⟩ := st_cells HR2.out; have hl22 := HR2.out.lt)
  | (go_at_call 118; refine (HE.out _ _).mono ?_; rintro e w2 ⟨k2, el2, at2, dl2, pe2, rf2, pa2, wd2, er, rfl, ok2, hb2⟩; have HR2 := hid (HR.out.below hb2 hlt2); have Hb2 : Hid (Below w.heap.size w w2) := hid (HbW.out.trans (hb2.mono HbW.out.size)); clear c0 c1 c2 c3 c4 c5 c6 c7 f0 f1 f2 f3 f4 f5 f6 f7; clear d0 d1 d2 d3 d4 d5 d6 d7 g0 g1 g2 g3 g4 g5 g6 g7; obtain ⟨⟨d0, d1, d2, d3, d4, d5, d6, d7⟩, g0, g1, g2, g3, g4, g5, g6, g7⟩ := st_cells HR2.out; have hl22 := HR2.out.lt)
  | (go_at_call 115; refine (HC.out _ _ ?ca ?cb _).mono ?_; (case ca => first | exact h0 | decide); (case cb => first | exact h1 | decide); rintro e w2 ⟨k2, el2, at2, dl2, pe2, rf2, pa2, wd2, er, rfl, ok2, hb2⟩; have HR2 := hid ((HR.out.far (p := ⟨pt, 0, none⟩) (by simp) _).below hb2 (by simpa using hlt2)); have Hb2 : Hid (Below w.heap.size w w2) := hid ((HbW.out.setCell (p := ⟨pt, 0, none⟩) (Nat.le_of_eq hpt) _).trans (hb2.mono (HbW.out.setCell (p := ⟨pt, 0, none⟩) (Nat.le_of_eq hpt) _).size)); clear c0 c1 c2 c3 c4 c5 c6 c7 f0 f1 f2 f3 f4 f5 f6 f7; clear d0 d1 d2 d3 d4 d5 d6 d7 g0 g1 g2 g3 g4 g5 g6 g7; obtain ⟨⟨d0, d1, d2, d3, d4, d5, d6, d7⟩, g0, g1, g2, g3, g4, g5, g6, g7⟩ := st_cells HR2.out; have hl22 := HR2.out.lt))
 all_goals first
  | (
   (try simp only [Exit.inBlock, Exit.then]);refine rc1 (pt + 1) (st_put HR2.out) ?_;exact ⟨_, _, _, _, _, _, _, _, _, rfl, ok2, Hb2.out.trans (st_put_below (by omega))⟩
   done)
  | (
   (try simp only [Exit.inBlock, Exit.then]);refine rc1 (pt + 1) (st_put HR.out) ?_;exact ⟨_, _, _, _, _, _, _, _, _, rfl, hok, HbW.out.trans (st_put_below (by omega))⟩
   done)
  | (
   (try simp only [Exit.inBlock, Exit.then]);refine rc1 (pt + 1) (st_put (HR.out.far (p := ⟨pt, 0, none⟩) (by simp) _)) ?_;exact ⟨_, _, _, _, _, _, _, _, _, rfl, hok, (HbW.out.setCell (p := ⟨pt, 0, none⟩) (Nat.le_of_eq hpt) _).trans (st_put_below (by omega))⟩
   done)
  | (
   (try simp only [Exit.inBlock, Exit.then]);refine rc1 (pt + 1) (st_put ((HR.out.far (p := ⟨pt, 0, none⟩) (by simp) _).far (p := ⟨pt, 3, none⟩) (by simp) _)) ?_;exact ⟨_, _, _, _, _, _, _, _, _, rfl, hok, ((HbW.out.setCell (p := ⟨pt, 0, none⟩) (Nat.le_of_eq hpt) _).setCell (p := ⟨pt, 3, none⟩) (Nat.le_of_eq hpt) _).trans (st_put_below (by omega))⟩
   done)
  | skip
theorem tag12_any (el at_ : ByteArray) (dl : Int) (pe rf : ByteArray) (pa : Int) (wd : ByteArray) (c : Int) (h0 : 0 <= c) (h1 : c <= 255) (m : Nat) (w : World) (hm : 16 <= m) (hm2 : m <= 1048575) (hok' : StOk m el at_ pe rf wd) : Calls Tryz.prog 100 #[.agg #[.int .i64 12, .string el, .string at_, .int .u8 dl, .string pe, .string rf, .int .i64 pa, .string wd], .int .u8 c] w (PSt (m + 1) w) := by
 have hok := hok'.mono (Nat.le_succ m)
 have HB := hid (fun W => refBlank_any c h0 h1 W)
 obtain ⟨b1, hb1⟩ := xE (isBlank (bOf c))
 rw [hb1] at HB
 clear hb1
 have HL := hid (fun W => low17_any c h0 h1 W)
 have HW := hid (fun k c h0 h1 W => within_any k el at_ dl pe rf pa wd c h0 h1 (m + 1) W (by omega) hok)
 have HC := hid (fun k c h0 h1 W => char_any k el at_ dl pe rf pa wd c h0 h1 m W hm hm2 hok')
 have HE := hid (fun k W => end17_any k el at_ dl pe rf pa wd (m + 1) W hok)
 have hez : el.size <= 1048576 := Nat.le_trans hok.1 (by omega)
 have haz : at_.size <= 1048576 := Nat.le_trans hok.2.1 (by omega)
 obtain ⟨W, hW⟩ := xE ((w.alloc (.cells #[.int .i64 12, .string el, .string at_, .int .u8 dl, .string pe, .string rf, .int .i64 pa, .string wd] 32)).alloc (.cells #[.int .i64 0, .string ⟨#[]⟩, .string ⟨#[]⟩, .int .u8 0, .string ⟨#[]⟩, .string ⟨#[]⟩, .int .i64 0, .string ⟨#[]⟩] 32))
 have HS : Hid (Blk W w.heap.size 32 #[.int .i64 12, .string el, .string at_, .int .u8 dl, .string pe, .string rf, .int .i64 pa, .string wd]) := hid (by rw [<- hW]; exact (Blk.new w _ _).alloc _)
 have HR : Hid (Blk W (w.heap.size + 1) 32 #[.int .i64 0, .string ⟨#[]⟩, .string ⟨#[]⟩, .int .u8 0, .string ⟨#[]⟩, .string ⟨#[]⟩, .int .i64 0, .string ⟨#[]⟩]) := hid (by rw [<- hW]; exact Blk.new_at _ _ (by simp) _ _)
 have HbW : Hid (Below w.heap.size w W) := hid (by rw [<- hW]; go_grown)
 obtain ⟨pt, hpt⟩ := xE w.heap.size
 have hlt2 := HR.out.lt
 have hlt1 := HS.out.lt
 rw [hpt] at HS HR hlt1 hlt2
 have hsz : Hid (W.heap.size = pt + 2) := hid (by rw [<- hW, <- hpt]; simp)
 obtain ⟨⟨c0, c1, c2, c3, c4, c5, c6, c7⟩, f0, f1, f2, f3, f4, f5, f6, f7⟩ := st_cells HS.out
 obtain ⟨⟨d0, d1, d2, d3, d4, d5, d6, d7⟩, g0, g1, g2, g3, g4, g5, g6, g7⟩ := st_cells HR.out
 go_enter Tryz.func100, Tryz.ntmps100
 go_upto_region 3 with (go_at_call 37; refine (HB.out _).mono ?_; rintro e w1 ⟨rfl, rfl⟩)
 clear hW HB
 go_wp2_with (first
  | (go_at_call 117; refine (HW.out _ _ ?ca ?cb _).mono ?_; (case ca => first | exact h0 | decide); (case cb => first | exact h1 | decide); rintro e w2 ⟨k2, el2, at2, dl2, pe2, rf2, pa2, wd2, er, rfl, ok2, hb2⟩; have HR2 := hid (HR.out.below hb2 hlt2); have Hb2 : Hid (Below w.heap.size w w2) := hid (HbW.out.trans (hb2.mono HbW.out.size)); clear c0 c1 c2 c3 c4 c5 c6 c7 f0 f1 f2 f3 f4 f5 f6 f7; clear d0 d1 d2 d3 d4 d5 d6 d7 g0 g1 g2 g3 g4 g5 g6 g7; obtain ⟨⟨d0, d1, d2, d3, d4, d5, d6, d7⟩, g0, g1, g2, g3, g4, g5, g6, g7⟩ := st_cells HR2.out; have hl22 := HR2.out.lt)
  | (go_at_call 118; refine (HE.out _ _).mono ?_; rintro e w2 ⟨k2, el2, at2, dl2, pe2, rf2, pa2, wd2, er, rfl, ok2, hb2⟩; have HR2 := hid (HR.out.below hb2 hlt2); have Hb2 : Hid (Below w.heap.size w w2) := hid (HbW.out.trans (hb2.mono HbW.out.size)); clear c0 c1 c2 c3 c4 c5 c6 c7 f0 f1 f2 f3 f4 f5 f6 f7; clear d0 d1 d2 d3 d4 d5 d6 d7 g0 g1 g2 g3 g4 g5 g6 g7; obtain ⟨⟨d0, d1, d2, d3, d4, d5, d6, d7⟩, g0, g1, g2, g3, g4, g5, g6, g7⟩ := st_cells HR2.out; have hl22 := HR2.out.lt)
  | (go_at_call 115; refine (HC.out _ _ ?ca ?cb _).mono ?_; (case ca => first | exact h0 | decide); (case cb => first | exact h1 | decide); rintro e w2 ⟨k2, el2, at2, dl2, pe2, rf2, pa2, wd2, er, rfl, ok2, hb2⟩; have HR2 := hid ((HR.out.far (p := ⟨pt, 0, none⟩) (by simp) _).below hb2 (by simpa using hlt2)); have Hb2 : Hid (Below w.heap.size w w2) := hid ((HbW.out.setCell (p := ⟨pt, 0, none⟩) (Nat.le_of_eq hpt) _).trans (hb2.mono (HbW.out.setCell (p := ⟨pt, 0, none⟩) (Nat.le_of_eq hpt) _).size)); clear c0 c1 c2 c3 c4 c5 c6 c7 f0 f1 f2 f3 f4 f5 f6 f7; clear d0 d1 d2 d3 d4 d5 d6 d7 g0 g1 g2 g3 g4 g5 g6 g7; obtain ⟨⟨d0, d1, d2, d3, d4, d5, d6, d7⟩, g0, g1, g2, g3, g4, g5, g6, g7⟩ := st_cells HR2.out; have hl22 := HR2.out.lt))
 all_goals first
  | (
   (try simp only [Exit.inBlock, Exit.then]);refine rc1 (pt + 1) (st_put HR2.out) ?_;exact ⟨_, _, _, _, _, _, _, _, _, rfl, ok2, Hb2.out.trans (st_put_below (by omega))⟩
   done)
  | (
   (try simp only [Exit.inBlock, Exit.then]);refine rc1 (pt + 1) (st_put HR.out) ?_;exact ⟨_, _, _, _, _, _, _, _, _, rfl, hok, HbW.out.trans (st_put_below (by omega))⟩
   done)
  | (
   (try simp only [Exit.inBlock, Exit.then]);refine rc1 (pt + 1) (st_put (HR.out.far (p := ⟨pt, 0, none⟩) (by simp) _)) ?_;exact ⟨_, _, _, _, _, _, _, _, _, rfl, hok, (HbW.out.setCell (p := ⟨pt, 0, none⟩) (Nat.le_of_eq hpt) _).trans (st_put_below (by omega))⟩
   done)
  | (
   (try simp only [Exit.inBlock, Exit.then]);refine rc1 (pt + 1) (st_put ((HR.out.far (p := ⟨pt, 0, none⟩) (by simp) _).far (p := ⟨pt, 3, none⟩) (by simp) _)) ?_;exact ⟨_, _, _, _, _, _, _, _, _, rfl, hok, ((HbW.out.setCell (p := ⟨pt, 0, none⟩) (Nat.le_of_eq hpt) _).setCell (p := ⟨pt, 3, none⟩) (Nat.le_of_eq hpt) _).trans (st_put_below (by omega))⟩
   done)
  | skip
end Go.Proofs.YtkcnmjdomipbjaaGreat
