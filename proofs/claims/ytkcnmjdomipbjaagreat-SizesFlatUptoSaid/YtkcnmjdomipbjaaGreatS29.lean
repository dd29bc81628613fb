import Derived.Deep.RegionWith
import Derived.Deep.Cut
import Derived.Test.YtkcnmjdomipbjaaGreatS27
import Derived.Test.YtkcnmjdomipbjaaGreatS28
set_option linter.unusedVariables false
set_option maxHeartbeats 100000000
set_option maxRecDepth 100000
namespace Go.Proofs.YtkcnmjdomipbjaaGreat
open Go.RowKit
def PSt (m : Nat) (w : World) (e : Ending) (w' : World) : Prop := ∃ (k : Int) (el at_ : ByteArray) (dl : Int) (pe rf : ByteArray) (pa : Int) (wd : ByteArray) (er : Int), e = .returned (.tuple #[.agg #[.int .i64 k, .string el, .string at_, .int .u8 dl, .string pe, .string rf, .int .i64 pa, .string wd], .int .i64 er]) /\ StOk m el at_ pe rf wd /\ Below w.heap.size w w'
theorem st_put {w : World} {g : Nat} {a0 a1 a2 a3 a4 a5 a6 a7 v0 v1 v2 v3 v4 v5 v6 v7 : Value} (h : Blk w g 32 #[a0, a1, a2, a3, a4, a5, a6, a7]) :
  Blk ((((((((w.setCell ⟨g, 0, none⟩ v0).setCell ⟨g, 1, none⟩ v1).setCell ⟨g, 2, none⟩ v2).setCell ⟨g, 3, none⟩ v3).setCell ⟨g, 4, none⟩ v4).setCell ⟨g, 5, none⟩ v5).setCell ⟨g, 6, none⟩ v6).setCell ⟨g, 7, none⟩ v7) g 32 #[v0, v1, v2, v3, v4, v5, v6, v7] := by
 have h1 := h.set_ 0 v0
 have h2 := h1.set_ 1 v1
 have h3 := h2.set_ 2 v2
 have h4 := h3.set_ 3 v3
 have h5 := h4.set_ 4 v4
 have h6 := h5.set_ 5 v5
 have h7 := h6.set_ 6 v6
 have h8 := h7.set_ 7 v7
 simp only [List.setIfInBounds_toArray, List.set_cons_zero, List.set_cons_succ] at h8
 exact h8
theorem st_put_below {w : World} {g B : Nat} (hB : B <= g) {v0 v1 v2 v3 v4 v5 v6 v7 : Value} :
  Below B w ((((((((w.setCell ⟨g, 0, none⟩ v0).setCell ⟨g, 1, none⟩ v1).setCell ⟨g, 2, none⟩ v2).setCell ⟨g, 3, none⟩ v3).setCell ⟨g, 4, none⟩ v4).setCell ⟨g, 5, none⟩ v5).setCell ⟨g, 6, none⟩ v6).setCell ⟨g, 7, none⟩ v7) :=
 ((((((((Below.refl B w).setCell (p := ⟨g, 0, none⟩) hB v0).setCell (p := ⟨g, 1, none⟩) hB v1).setCell (p := ⟨g, 2, none⟩) hB v2).setCell (p := ⟨g, 3, none⟩) hB v3).setCell (p := ⟨g, 4, none⟩) hB v4).setCell (p := ⟨g, 5, none⟩) hB v5).setCell (p := ⟨g, 6, none⟩) hB v6).setCell (p := ⟨g, 7, none⟩) hB v7
theorem sub_any (k : Int) (el at_ : ByteArray) (dl : Int) (pe rf : ByteArray) (pa : Int) (wd : ByteArray) (t : ByteArray) (m : Nat) (w : World) (hm : 16 <= m) (hm2 : m <= 1048576) (hok : StOk m el at_ pe rf wd) (ht : t.size <= 1099511627775) : Calls Tryz.prog 121 #[.agg #[.int .i64 k, .string el, .string at_, .int .u8 dl, .string pe, .string rf, .int .i64 pa, .string wd], .string t] w (PSt m w) := by
 obtain ⟨z1, z2, z3, z4, z5⟩ := hok
 have HL := hid (fun W => language_any k el at_ dl pe rf pa wd W (by omega) (by omega))
 have HF := hid (fun kk W => feed14_any kk pa wd t m hm hm2 z5 ht W)
 obtain ⟨W, hW⟩ := xE ((w.alloc (.cells #[.int .i64 k, .string el, .string at_, .int .u8 dl, .string pe, .string rf, .int .i64 pa, .string wd] 32)).alloc (.cells #[.int .i64 0, .string ⟨#[]⟩, .string ⟨#[]⟩, .int .u8 0, .string ⟨#[]⟩, .string ⟨#[]⟩, .int .i64 0, .string ⟨#[]⟩] 32))
 have HS : Hid (Blk W w.heap.size 32 #[.int .i64 k, .string el, .string at_, .int .u8 dl, .string pe, .string rf, .int .i64 pa, .string wd]) := hid (by rw [<- hW]; exact (Blk.new w _ _).alloc _)
 have HR : Hid (Blk W (w.heap.size + 1) 32 #[.int .i64 0, .string ⟨#[]⟩, .string ⟨#[]⟩, .int .u8 0, .string ⟨#[]⟩, .string ⟨#[]⟩, .int .i64 0, .string ⟨#[]⟩]) := hid (by rw [<- hW]; exact Blk.new_at _ _ (by simp) _ _)
 have HbW : Hid (Below w.heap.size w W) := hid (by rw [<- hW]; go_grown)
 obtain ⟨pt, hpt⟩ := xE w.heap.size
 have hlt2 := HR.out.lt
 have hlt1 := HS.out.lt
 rw [hpt] at HS HR hlt1 hlt2
 obtain ⟨⟨c0, c1, c2, c3, c4, c5, c6, c7⟩, _⟩ := st_cells HS.out
 go_enter Tryz.func121, Tryz.ntmps121
 go_upto_region 2 with (go_at_call 77; refine (HL.out _).mono ?_; rintro e w2 ⟨kk, rfl, hb2⟩)
 have HS2 := hid (HS.out.below hb2 hlt1)
 have HR2 := hid (HR.out.below hb2 hlt2)
 have HbP : Hid (Below w.heap.size w w2) := hid (HbW.out.trans (hb2.mono HbW.out.size))
 clear c0 c1 c2 c3 c4 c5 c6 c7 hW hb2
 obtain ⟨q, hq⟩ := xE (kk == 0)
 cases q
 ·obtain ⟨⟨c0, c1, c2, c3, c4, c5, c6, c7⟩, f0, f1, f2, f3, f4, f5, f6, f7⟩ := st_cells HS2.out;go_upto_region 6 with (go_at_call 137; refine (HF.out _ _).mono ?_; rintro e w3 ⟨pq, wq, rfl, hq3, hb3⟩; have HS3 := hid (HS2.out.below hb3 HS2.out.lt); clear c0 c1 c2 c3 c4 c5 c6 c7 f0 f1 f2 f3 f4 f5 f6 f7; obtain ⟨⟨c0, c1, c2, c3, c4, c5, c6, c7⟩, f0, f1, f2, f3, f4, f5, f6, f7⟩ := st_cells HS3.out)
  obtain ⟨w4, h4⟩ := xE ((w3.setCell ⟨pt, 6, none⟩ (.int .i64 pq)).setCell ⟨pt, 7, none⟩ (.string wq));have HS4 : Hid (Blk w4 pt 32 #[.int .i64 k, .string el, .string at_, .int .u8 dl, .string pe, .string rf, .int .i64 pq, .string wq]) := hid (by rw [<- h4]; exact (HS3.out.set_ 6 _).set_ 7 _);have HR4 : Hid (Blk w4 (pt + 1) 32 #[.int .i64 0, .string ⟨#[]⟩, .string ⟨#[]⟩, .int .u8 0, .string ⟨#[]⟩, .string ⟨#[]⟩, .int .i64 0, .string ⟨#[]⟩]) := hid (by rw [<- h4]; exact ((HR2.out.below hb3 HR2.out.lt).far (by simp) _).far (by simp) _);have HbQ : Hid (Below w.heap.size w w4) := hid (by rw [<- h4]; exact ((HbP.out.trans (hb3.mono HbP.out.size)).setCell (p := ⟨pt, 6, none⟩) (Nat.le_of_eq hpt) _).setCell (p := ⟨pt, 7, none⟩) (Nat.le_of_eq hpt) _);rw [h4];clear c0 c1 c2 c3 c4 c5 c6 c7 f0 f1 f2 f3 f4 f5 f6 f7 h4 hb3;obtain ⟨⟨c0, c1, c2, c3, c4, c5, c6, c7⟩, f0, f1, f2, f3, f4, f5, f6, f7⟩ := st_cells HS4.out;obtain ⟨⟨d0, d1, d2, d3, d4, d5, d6, d7⟩, g0, g1, g2, g3, g4, g5, g6, g7⟩ := st_cells HR4.out;go_wp2
  all_goals (
   (try simp only [Exit.inBlock, Exit.then]);refine bodyPost_ret (results_c1 rfl _ _ (pt + 1) _ #[.int .i64 k, .string el, .string at_, .int .u8 dl, .string pe, .string rf, .int .i64 pq, .string wq] (0, 0) _ rfl (st_put HR4.out) Tryz.underlying32 rfl (by kernel_rfl)) rfl ?_;exact ⟨_, _, _, _, _, _, _, _, _, rfl, ⟨z1, z2, z3, z4, hq3⟩, HbQ.out.trans (st_put_below (by omega))⟩)
 obtain ⟨⟨c0, c1, c2, c3, c4, c5, c6, c7⟩, f0, f1, f2, f3, f4, f5, f6, f7⟩ := st_cells HS2.out
 obtain ⟨⟨d0, d1, d2, d3, d4, d5, d6, d7⟩, g0, g1, g2, g3, g4, g5, g6, g7⟩ := st_cells HR2.out
 go_wp2
 (try simp only [Exit.inBlock, Exit.then])
 refine bodyPost_ret (results_c1 rfl _ _ (pt + 1) _ #[.int .i64 k, .string el, .string at_, .int .u8 dl, .string pe, .string rf, .int .i64 pa, .string wd] (0, 0) _ rfl (st_put HR2.out) Tryz.underlying32 rfl (by kernel_rfl)) rfl ?_
 exact ⟨_, _, _, _, _, _, _, _, _, rfl, ⟨z1, z2, z3, z4, z5⟩, HbP.out.trans (st_put_below (by omega))⟩
theorem low17_any (c : Int) (h0 : 0 <= c) (h1 : c <= 255) (w : World) : Calls Tryz.prog 116 #[.int .u8 c] w (PS 1 w) := by
 have HL := hid (fun W => refLower_any ⟨#[bOf c]⟩ W (by show 1 <= _; omega))
 have hcv := conv_one (P := Tryz.prog) c w 62 9 5 Tryz.underlying62 Tryz.underlying5 Tryz.underlying9 h0 h1
 go_enter Tryz.func116, Tryz.ntmps116
 go_wp2_with (go_at_call 86; refine (HL.out _).mono ?_; rintro e w2 ⟨t, rfl, ht, hb⟩)
 go_ret
 refine ⟨_, rfl, ?_, (alloc_below _ _).trans (hb.mono (by simp))⟩
 have h2 := congrArg List.length ht.out
 rw [len_data] at h2
 rw [h2, low_length]; exact Nat.le_refl 1
def PArr (n : Nat) (w : World) (e : Ending) (w' : World) : Prop := ∃ g, e = .returned (.slice (some ⟨g, 0, none⟩) n n) /\ StrsAt w' g n /\ Below w.heap.size w w'
theorem elements_any (w : World) : Calls Tryz.prog 141 #[] w (PArr 10 w) := by
 go_enter Tryz.func141, Tryz.ntmps141
 go_wp2
 go_ret
 exact ⟨_, rfl, StrsAt.of (Blk.new _ _ _) (by rfl) rfl, by go_grown⟩
theorem element_any (s : ByteArray) (w : World) : Calls Tryz.prog 136 #[.string s] w (AI w) := by
 have He := hid (fun W => elements_any W)
 go_enter Tryz.func136, Tryz.ntmps136
 go_wp2_with (go_at_call 141; refine (He.out _).mono ?_; rintro e w1 ⟨g, rfl, hs, hb⟩; have H := hid hs; clear hs)
 go_loop [4] (fun i => ∃ k : Nat, k <= 10 /\ i = .int .i64 (k : Int)) (fun i => 10 - (intOf i).toNat)
 case atStart => exact ⟨0, Nat.zero_le _, rfl⟩
 obtain ⟨k, hk, rfl⟩ := hrel
 by_cases hlt : k < 10
 ·obtain ⟨t, hc⟩ := H.out k hlt;have hli : (k : Int) < 10 := by omega
  go_wp2
  all_goals first
   | (go_ret; exact ⟨_, rfl, hb⟩)
   | (go_round
      case rel => exact ⟨k + 1, by omega, by go_num⟩
      simp [intOf]; omega)
 obtain rfl : k = 10 := by omega
 go_wp2
 go_ret
 exact ⟨_, rfl, hb⟩
theorem flush_any (k : Int) (el at_ : ByteArray) (dl : Int) (pe rf : ByteArray) (pa : Int) (wd : ByteArray) (m : Nat) (w : World) (hm : 16 <= m) (hm2 : m <= 1048576) (hok : StOk m el at_ pe rf wd) : Calls Tryz.prog 119 #[.agg #[.int .i64 k, .string el, .string at_, .int .u8 dl, .string pe, .string rf, .int .i64 pa, .string wd]] w (PSt m w) := by
 have HU := hid (fun W => sub_any k el at_ dl pe ⟨#[]⟩ pa wd rf m W hm hm2 ⟨hok.1, hok.2.1, hok.2.2.1, Nat.zero_le _, hok.2.2.2.2⟩ (Nat.le_trans hok.2.2.2.1 (by omega)))
 obtain ⟨W, hW⟩ := xE ((w.alloc (.cells #[.int .i64 k, .string el, .string at_, .int .u8 dl, .string pe, .string rf, .int .i64 pa, .string wd] 32)).alloc (.cells #[.int .i64 0, .string ⟨#[]⟩, .string ⟨#[]⟩, .int .u8 0, .string ⟨#[]⟩, .string ⟨#[]⟩, .int .i64 0, .string ⟨#[]⟩] 32))
 have HS : Hid (Blk W w.heap.size 32 #[.int .i64 k, .string el, .string at_, .int .u8 dl, .string pe, .string rf, .int .i64 pa, .string wd]) := hid (by rw [<- hW]; exact (Blk.new w _ _).alloc _)
 have HR : Hid (Blk W (w.heap.size + 1) 32 #[.int .i64 0, .string ⟨#[]⟩, .string ⟨#[]⟩, .int .u8 0, .string ⟨#[]⟩, .string ⟨#[]⟩, .int .i64 0, .string ⟨#[]⟩]) := hid (by rw [<- hW]; exact Blk.new_at _ _ (by simp) _ _)
 have HbW : Hid (Below w.heap.size w W) := hid (by rw [<- hW]; go_grown)
 obtain ⟨pt, hpt⟩ := xE w.heap.size
 have hlt2 := HR.out.lt
 have hlt1 := HS.out.lt
 rw [hpt] at HS HR hlt1 hlt2
 have hsz : Hid (W.heap.size = pt + 2) := hid (by rw [<- hW, <- hpt]; simp)
 obtain ⟨⟨c0, c1, c2, c3, c4, c5, c6, c7⟩, f0, f1, f2, f3, f4, f5, f6, f7⟩ := st_cells HS.out
 go_enter Tryz.func119, Tryz.ntmps119
 go_wp2_with (go_at_call 121; refine (HU.out _).mono ?_; rintro e w2 ⟨k2, el2, at2, dl2, pe2, rf2, pa2, wd2, er, rfl, ok2, hb2⟩; have HR2 := hid ((HR.out.far (by simp) _).below hb2 (by simpa using hlt2)); have Hb2 : Hid (Below w.heap.size w w2) := hid ((HbW.out.setCell (p := ⟨pt, 5, none⟩) (Nat.le_of_eq hpt) _).trans (hb2.mono (by simpa using HbW.out.size))); clear c0 c1 c2 c3 c4 c5 c6 c7 f0 f1 f2 f3 f4 f5 f6 f7; obtain ⟨⟨d0, d1, d2, d3, d4, d5, d6, d7⟩, g0, g1, g2, g3, g4, g5, g6, g7⟩ := st_cells HR2.out)
 (try simp only [Exit.inBlock, Exit.then])
 refine rc1 (pt + 1) (st_put HR2.out) ?_
 exact ⟨_, _, _, _, _, _, _, _, _, rfl, ok2, Hb2.out.trans (st_put_below (by omega))⟩
theorem st_el {m : Nat} {el at_ pe rf wd : ByteArray} (h : StOk m el at_ pe rf wd) : StOk m el ⟨#[]⟩ ⟨#[]⟩ ⟨#[]⟩ ⟨#[]⟩ := ⟨h.1, Nat.zero_le _, Nat.zero_le _, Nat.zero_le _, Nat.zero_le _⟩
theorem st_zero {m : Nat} : StOk m ⟨#[]⟩ ⟨#[]⟩ ⟨#[]⟩ ⟨#[]⟩ ⟨#[]⟩ := ⟨Nat.zero_le _, Nat.zero_le _, Nat.zero_le _, Nat.zero_le _, Nat.zero_le _⟩
theorem end17_any (k : Int) (el at_ : ByteArray) (dl : Int) (pe rf : ByteArray) (pa : Int) (wd : ByteArray) (m : Nat) (w : World) (hok : StOk m el at_ pe rf wd) : Calls Tryz.prog 118 #[.agg #[.int .i64 k, .string el, .string at_, .int .u8 dl, .string pe, .string rf, .int .i64 pa, .string wd]] w (PSt m w) := by
 have HE := hid (fun W => element_any el W)
 obtain ⟨W, hW⟩ := xE ((w.alloc (.cells #[.int .i64 k, .string el, .string at_, .int .u8 dl, .string pe, .string rf, .int .i64 pa, .string wd] 32)).alloc (.cells #[.int .i64 0, .string ⟨#[]⟩, .string ⟨#[]⟩, .int .u8 0, .string ⟨#[]⟩, .string ⟨#[]⟩, .int .i64 0, .string ⟨#[]⟩] 32))
 have HS : Hid (Blk W w.heap.size 32 #[.int .i64 k, .string el, .string at_, .int .u8 dl, .string pe, .string rf, .int .i64 pa, .string wd]) := hid (by rw [<- hW]; exact (Blk.new w _ _).alloc _)
 have HR : Hid (Blk W (w.heap.size + 1) 32 #[.int .i64 0, .string ⟨#[]⟩, .string ⟨#[]⟩, .int .u8 0, .string ⟨#[]⟩, .string ⟨#[]⟩, .int .i64 0, .string ⟨#[]⟩]) := hid (by rw [<- hW]; exact Blk.new_at _ _ (by simp) _ _)
 have HbW : Hid (Below w.heap.size w W) := hid (by rw [<- hW]; go_grown)
 obtain ⟨pt, hpt⟩ := xE w.heap.size
 have hlt2 := HR.out.lt
 have hlt1 := HS.out.lt
 rw [hpt] at HS HR hlt1 hlt2
 have hsz : Hid (W.heap.size = pt + 2) := hid (by rw [<- hW, <- hpt]; simp)
 obtain ⟨⟨c0, c1, c2, c3, c4, c5, c6, c7⟩, f0, f1, f2, f3, f4, f5, f6, f7⟩ := st_cells HS.out
 obtain ⟨⟨d0, d1, d2, d3, d4, d5, d6, d7⟩, g0, g1, g2, g3, g4, g5, g6, g7⟩ := st_cells HR.out
 go_enter Tryz.func118, Tryz.ntmps118
 go_wp2_with (go_at_call 136; refine (HE.out _).mono ?_; rintro e w2 ⟨kk, rfl, hb2⟩; have HS2 := hid (HS.out.below hb2 HS.out.lt); have HR2 := hid (HR.out.below hb2 HR.out.lt); have Hb2 : Hid (Below w.heap.size w w2) := hid (HbW.out.trans (hb2.mono HbW.out.size)); clear c0 c1 c2 c3 c4 c5 c6 c7 f0 f1 f2 f3 f4 f5 f6 f7; clear d0 d1 d2 d3 d4 d5 d6 d7 g0 g1 g2 g3 g4 g5 g6 g7; obtain ⟨⟨c0, c1, c2, c3, c4, c5, c6, c7⟩, f0, f1, f2, f3, f4, f5, f6, f7⟩ := st_cells HS2.out; obtain ⟨⟨d0, d1, d2, d3, d4, d5, d6, d7⟩, g0, g1, g2, g3, g4, g5, g6, g7⟩ := st_cells HR2.out)
 all_goals (
  (try simp only [Exit.inBlock, Exit.then]);refine rc1 (pt + 1) (st_put HR2.out) ?_;exact ⟨_, _, _, _, _, _, _, _, _, rfl, (by first | exact st_el hok | exact st_zero), Hb2.out.trans (st_put_below (by omega))⟩)
theorem within_any (k : Int) (el at_ : ByteArray) (dl : Int) (pe rf : ByteArray) (pa : Int) (wd : ByteArray) (c : Int) (h0 : 0 <= c) (h1 : c <= 255) (m : Nat) (w : World) (hm : 16 <= m) (hok : StOk m el at_ pe rf wd) : Calls Tryz.prog 117 #[.agg #[.int .i64 k, .string el, .string at_, .int .u8 dl, .string pe, .string rf, .int .i64 pa, .string wd], .int .u8 c] w (PSt m w) := by
 have HB := hid (fun W => refBlank_any c h0 h1 W)
 obtain ⟨b1, hb1⟩ := xE (isBlank (bOf c))
 rw [hb1] at HB
 clear hb1
 have HE := hid (fun W => end17_any k el at_ dl pe rf pa wd m W hok)
 have HL := hid (fun c h0 h1 W => low17_any c h0 h1 W)
 obtain ⟨W, hW⟩ := xE ((w.alloc (.cells #[.int .i64 k, .string el, .string at_, .int .u8 dl, .string pe, .string rf, .int .i64 pa, .string wd] 32)).alloc (.cells #[.int .i64 0, .string ⟨#[]⟩, .string ⟨#[]⟩, .int .u8 0, .string ⟨#[]⟩, .string ⟨#[]⟩, .int .i64 0, .string ⟨#[]⟩] 32))
 have HS : Hid (Blk W w.heap.size 32 #[.int .i64 k, .string el, .string at_, .int .u8 dl, .string pe, .string rf, .int .i64 pa, .string wd]) := hid (by rw [<- hW]; exact (Blk.new w _ _).alloc _)
 have HR : Hid (Blk W (w.heap.size + 1) 32 #[.int .i64 0, .string ⟨#[]⟩, .string ⟨#[]⟩, .int .u8 0, .string ⟨#[]⟩, .string ⟨#[]⟩, .int .i64 0, .string ⟨#[]⟩]) := hid (by rw [<- hW]; exact Blk.new_at _ _ (by simp) _ _)
 have HbW : Hid (Below w.heap.size w W) := hid (by rw [<- hW]; go_grown)
 obtain ⟨pt, hpt⟩ := xE w.heap.size
 have hlt2 := HR.out.lt
 have hlt1 := HS.out.lt
 rw [hpt] at HS HR hlt1 hlt2
 have hsz : Hid (W.heap.size = pt + 2) := hid (by rw [<- hW, <- hpt]; simp)
 obtain ⟨⟨c0, c1, c2, c3, c4, c5, c6, c7⟩, f0, f1, f2, f3, f4, f5, f6, f7⟩ := st_cells HS.out
 obtain ⟨⟨d0, d1, d2, d3, d4, d5, d6, d7⟩, g0, g1, g2, g3, g4, g5, g6, g7⟩ := st_cells HR.out
 go_enter Tryz.func117, Tryz.ntmps117
 go_wp2_with (first
  | (go_at_call 37; refine (HB.out _).mono ?_; rintro e w1 ⟨rfl, rfl⟩)
  | (go_at_call 118; refine (HE.out _).mono ?_; rintro e w2 ⟨k2, el2, at2, dl2, pe2, rf2, pa2, wd2, er, rfl, ok2, hb2⟩; have HR2 := hid (HR.out.below hb2 hlt2); have Hb2 : Hid (Below w.heap.size w w2) := hid (HbW.out.trans (hb2.mono HbW.out.size)); clear c0 c1 c2 c3 c4 c5 c6 c7 f0 f1 f2 f3 f4 f5 f6 f7; clear d0 d1 d2 d3 d4 d5 d6 d7 g0 g1 g2 g3 g4 g5 g6 g7; obtain ⟨⟨d0, d1, d2, d3, d4, d5, d6, d7⟩, g0, g1, g2, g3, g4, g5, g6, g7⟩ := st_cells HR2.out))
 all_goals first
  | (
   (try simp only [Exit.inBlock, Exit.then]);refine rc1 (pt + 1) (st_put HR2.out) ?_;exact ⟨_, _, _, _, _, _, _, _, _, rfl, ok2, Hb2.out.trans (st_put_below (by omega))⟩
   done)
  | (
   (try simp only [Exit.inBlock, Exit.then]);refine rc1 (pt + 1) (st_put HR.out) ?_;exact ⟨_, _, _, _, _, _, _, _, _, rfl, (by first | exact st_el hok | exact st_zero), HbW.out.trans (st_put_below (by omega))⟩
   done)
  | skip
 go_region_with (go_at_call 116; refine (HL.out c h0 h1 _).mono ?_; rintro e w3 ⟨t, rfl, ht, hb3⟩; have HS3 := hid (HS.out.drew.below hb3 hlt1); have HR3 := hid (HR.out.drew.below hb3 hlt2); have Hb3 : Hid (Below w.heap.size w w3) := hid (HbW.out.drew.trans (hb3.mono (by simpa using HbW.out.size))); clear HR; clear c0 c1 c2 c3 c4 c5 c6 c7 f0 f1 f2 f3 f4 f5 f6 f7; clear d0 d1 d2 d3 d4 d5 d6 d7 g0 g1 g2 g3 g4 g5 g6 g7; obtain ⟨⟨c0, c1, c2, c3, c4, c5, c6, c7⟩, f0, f1, f2, f3, f4, f5, f6, f7⟩ := st_cells HS3.out; obtain ⟨⟨d0, d1, d2, d3, d4, d5, d6, d7⟩, g0, g1, g2, g3, g4, g5, g6, g7⟩ := st_cells HR3.out)
 all_goals (
  clear c0 c1 c2 c3 c4 c5 c6 c7 f0 f1 f2 f3 f4 f5 f6 f7 d0 d1 d2 d3 d4 d5 d6 d7 g0 g1 g2 g3 g4 g5 g6 g7;go_wp2
  (try simp only [Exit.inBlock, Exit.then]);refine rc1 (pt + 1) (st_put HR3.out) ?_;exact ⟨_, _, _, _, _, _, _, _, _, rfl, ⟨hok.1, Nat.le_trans ht (by omega), Nat.zero_le _, Nat.zero_le _, Nat.zero_le _⟩, Hb3.out.trans (st_put_below (by omega))⟩)
theorem st_far {w : World} {g h : Nat} {t : TypeId} {cs : Array Value} (hb : Blk w g t cs) (hne : g ≠ h) {v0 v1 v2 v3 v4 v5 v6 v7 : Value} :
  Blk ((((((((w.setCell ⟨h, 0, none⟩ v0).setCell ⟨h, 1, none⟩ v1).setCell ⟨h, 2, none⟩ v2).setCell ⟨h, 3, none⟩ v3).setCell ⟨h, 4, none⟩ v4).setCell ⟨h, 5, none⟩ v5).setCell ⟨h, 6, none⟩ v6).setCell ⟨h, 7, none⟩ v7) g t cs :=
 (((((((hb.far (p := ⟨h, 0, none⟩) hne v0).far (p := ⟨h, 1, none⟩) hne v1).far (p := ⟨h, 2, none⟩) hne v2).far (p := ⟨h, 3, none⟩) hne v3).far (p := ⟨h, 4, none⟩) hne v4).far (p := ⟨h, 5, none⟩) hne v5).far (p := ⟨h, 6, none⟩) hne v6).far (p := ⟨h, 7, none⟩) hne v7
def MidSt (m : Nat) (w : World) (pt : Nat) (wx : World) : Prop := ∃ (k : Int) (el at_ : ByteArray) (dl : Int) (pe rf : ByteArray) (pa : Int) (wd : ByteArray), StOk m el at_ pe rf wd /\ Blk wx pt 32 #[.int .i64 k, .string el, .string at_, .int .u8 dl, .string pe, .string rf, .int .i64 pa, .string wd] /\ Blk wx (pt + 1) 32 #[.int .i64 0, .string ⟨#[]⟩, .string ⟨#[]⟩, .int .u8 0, .string ⟨#[]⟩, .string ⟨#[]⟩, .int .i64 0, .string ⟨#[]⟩] /\ Below w.heap.size w wx
theorem StOk.mono {m n : Nat} {a b c d e : ByteArray} (h : StOk m a b c d e) (hn : m <= n) : StOk n a b c d e := ⟨Nat.le_trans h.1 hn, Nat.le_trans h.2.1 hn, Nat.le_trans h.2.2.1 hn, Nat.le_trans h.2.2.2.1 hn, Nat.le_trans h.2.2.2.2 hn⟩
theorem StOk.ref {m : Nat} {a b c d e : ByteArray} (h : StOk m a b c d e) (x : ByteArray) (hx : x.size <= m) : StOk m a b c x e := ⟨h.1, h.2.1, h.2.2.1, hx, h.2.2.2.2⟩
theorem char_any (k : Int) (el at_ : ByteArray) (dl : Int) (pe rf : ByteArray) (pa : Int) (wd : ByteArray) (c : Int) (h0 : 0 <= c) (h1 : c <= 255) (m : Nat) (w : World) (hm : 16 <= m) (hm2 : m <= 1048575) (hok' : StOk m el at_ pe rf wd) : Calls Tryz.prog 115 #[.agg #[.int .i64 k, .string el, .string at_, .int .u8 dl, .string pe, .string rf, .int .i64 pa, .string wd], .int .u8 c] w (PSt (m + 1) w) := by
 have hok := hok'.mono (Nat.le_succ m)
 have HU := hid (fun k el at_ dl pe rf pa wd t W h1 h2 => sub_any k el at_ dl pe rf pa wd t (m + 1) W (by omega) (by omega) h1 h2)
 have HO := hid (fun s hs W => refOne_any s W hs)
 have HN := hid (fun s hs W => refUnfinished_any s W hs)
 obtain ⟨W, hW⟩ := xE ((w.alloc (.cells #[.int .i64 k, .string el, .string at_, .int .u8 dl, .string pe, .string rf, .int .i64 pa, .string wd] 32)).alloc (.cells #[.int .i64 0, .string ⟨#[]⟩, .string ⟨#[]⟩, .int .u8 0, .string ⟨#[]⟩, .string ⟨#[]⟩, .int .i64 0, .string ⟨#[]⟩] 32))
 have HS : Hid (Blk W w.heap.size 32 #[.int .i64 k, .string el, .string at_, .int .u8 dl, .string pe, .string rf, .int .i64 pa, .string wd]) := hid (by rw [<- hW]; exact (Blk.new w _ _).alloc _)
 have HR : Hid (Blk W (w.heap.size + 1) 32 #[.int .i64 0, .string ⟨#[]⟩, .string ⟨#[]⟩, .int .u8 0, .string ⟨#[]⟩, .string ⟨#[]⟩, .int .i64 0, .string ⟨#[]⟩]) := hid (by rw [<- hW]; exact Blk.new_at _ _ (by simp) _ _)
 have HbW : Hid (Below w.heap.size w W) := hid (by rw [<- hW]; go_grown)
 obtain ⟨pt, hpt⟩ := xE w.heap.size
 have hlt2 := HR.out.lt
 have hlt1 := HS.out.lt
 rw [hpt] at HS HR hlt1 hlt2
 have hsz : Hid (W.heap.size = pt + 2) := hid (by rw [<- hW, <- hpt]; simp)
 have hcv := conv_one (P := Tryz.prog) c W 62 9 5 Tryz.underlying62 Tryz.underlying5 Tryz.underlying9 h0 h1
 obtain ⟨oc, hoc⟩ : ∃ x : ByteArray, ⟨#[bOf c]⟩ = x := ⟨_, rfl⟩
 have hoz : Hid (oc.size = 1) := hid (by rw [<- hoc]; rfl)
 rw [hoc] at hcv
 clear hoc
 go_enter Tryz.func115, Tryz.ntmps115
 go_upto_region 2 with fail
 obtain ⟨W1, hW1⟩ := xE (W.alloc (.cells #[.int .u8 c] 5))
 have HS1 : Hid (Blk W1 pt 32 #[.int .i64 k, .string el, .string at_, .int .u8 dl, .string pe, .string rf, .int .i64 pa, .string wd]) := hid (by rw [<- hW1]; exact HS.out.alloc _)
 have HR1 : Hid (Blk W1 (pt + 1) 32 #[.int .i64 0, .string ⟨#[]⟩, .string ⟨#[]⟩, .int .u8 0, .string ⟨#[]⟩, .string ⟨#[]⟩, .int .i64 0, .string ⟨#[]⟩]) := hid (by rw [<- hW1]; exact HR.out.alloc _)
 have Hb1 : Hid (Below w.heap.size w W1) := hid (by rw [<- hW1]; exact HbW.out.alloc HbW.out.size _)
 rw [hW1]
 clear hW1 hcv HS HR hW
 have hl1 := HS1.out.lt
 have hl2 := HR1.out.lt
 obtain ⟨⟨c0, c1, c2, c3, c4, c5, c6, c7⟩, f0, f1, f2, f3, f4, f5, f6, f7⟩ := st_cells HS1.out
 go_upto_if 17 with fail
 obtain ⟨q, hq⟩ := xE (!rf.toList.isEmpty)
 rw [hq]
 clear hq
 go_cut [7, 8, 9, 10, 11] from 15 (fun _ _ _ _ _ wx => MidSt (m + 1) w pt wx)
 case first =>
  cases q
  ·go_wp2
   go_meet;exact ⟨_, _, _, _, _, _, _, _, hok, HS1.out, HR1.out, Hb1.out⟩
  obtain ⟨t, ht⟩ := xE (rf ++ oc);have htz : Hid (t.size <= m + 1) := hid (by rw [<- ht, ByteArray.size_append, hoz.out]; have := hok'.2.2.2.1; omega);have hoz' := hoz.out;have hrz := hok'.2.2.2.1;go_upto_region 5 with (go_at_call 134; refine (HO.out t ?ca _).mono ?_; (case ca => exact Nat.le_trans htz.out (by omega)); rintro e w2 ⟨x, n, rfl, hx, _, hb2⟩)
  have hxz : Hid (x.size <= m + 1) := hid (by have h1 := congrArg List.length hx.out; have h2 := one_len t.data.toList; rw [len_data] at h1 h2; have := htz.out; omega);have HS2 := hid (HS1.out.below hb2 hl1);have HR2 := hid (HR1.out.below hb2 hl2);have Hb2 : Hid (Below w.heap.size w w2) := hid (Hb1.out.trans (hb2.mono Hb1.out.size));clear HS1 HR1 Hb1 hb2 hx hl1 hl2 c0 c1 c2 c3 c4 c5 c6 c7 f0 f1 f2 f3 f4 f5 f6 f7;have hl1 := HS2.out.lt;have hl2 := HR2.out.lt;obtain ⟨q2, hq2⟩ := xE (n == (t.size : Int));obtain ⟨⟨c0, c1, c2, c3, c4, c5, c6, c7⟩, f0, f1, f2, f3, f4, f5, f6, f7⟩ := st_cells HS2.out;cases q2
  ·have A1 := hid (HU.out k el at_ dl pe ⟨#[]⟩ pa wd rf · (hok.ref _ (Nat.zero_le _)) (Nat.le_trans hok.2.2.2.1 (by omega)));go_upto_if 38 with (go_at_call 135; refine (HN.out t ?ca _).mono ?_; (case ca => exact Nat.le_trans htz.out (by omega)); rintro e w3 ⟨b, rfl, _, hb3⟩)
   have HS3 := hid (HS2.out.below hb3 hl1);have HR3 := hid (HR2.out.below hb3 hl2);have Hb3 : Hid (Below w.heap.size w w3) := hid (Hb2.out.trans (hb3.mono Hb2.out.size));clear HS2 HR2 Hb2 hl1 hl2 hb3 c0 c1 c2 c3 c4 c5 c6 c7 f0 f1 f2 f3 f4 f5 f6 f7;obtain ⟨⟨c0, c1, c2, c3, c4, c5, c6, c7⟩, f0, f1, f2, f3, f4, f5, f6, f7⟩ := st_cells HS3.out;cases b
   ·go_upto_region 13 with fail
    obtain ⟨w4, hw4⟩ := xE (w3.setCell ⟨pt, 5, none⟩ (.string ⟨#[]⟩));have HS4 : Hid (Blk w4 pt 32 #[.int .i64 k, .string el, .string at_, .int .u8 dl, .string pe, .string ⟨#[]⟩, .int .i64 pa, .string wd]) := hid (by rw [<- hw4]; exact HS3.out.set_ 5 _);have HR4 : Hid (Blk w4 (pt + 1) 32 #[.int .i64 0, .string ⟨#[]⟩, .string ⟨#[]⟩, .int .u8 0, .string ⟨#[]⟩, .string ⟨#[]⟩, .int .i64 0, .string ⟨#[]⟩]) := hid (by rw [<- hw4]; exact HR3.out.far (by simp) _);have Hb4 : Hid (Below w.heap.size w w4) := hid (by rw [<- hw4]; exact Hb3.out.setCell (p := ⟨pt, 5, none⟩) (Nat.le_of_eq hpt) _);rw [hw4];clear hw4 HS3 HR3 Hb3 c0 c1 c2 c3 c4 c5 c6 c7 f0 f1 f2 f3 f4 f5 f6 f7;have hl1 := HS4.out.lt;have hl2 := HR4.out.lt;obtain ⟨⟨c0, c1, c2, c3, c4, c5, c6, c7⟩, _⟩ := st_cells HS4.out;go_upto_region 14 with (go_at_call 121; refine (A1.out _).mono ?_; rintro e w5 ⟨k2, el2, at2, dl2, pe2, rf2, pa2, wd2, er, rfl, ok2, hb5⟩; clear c0 c1 c2 c3 c4 c5 c6 c7)
    obtain ⟨w6, hw6⟩ := xE (w5.alloc (.cells #[.int .i64 k2, .string el2, .string at2, .int .u8 dl2, .string pe2, .string rf2, .int .i64 pa2, .string wd2] 32));have HS6 : Hid (Blk w6 pt 32 #[.int .i64 k, .string el, .string at_, .int .u8 dl, .string pe, .string ⟨#[]⟩, .int .i64 pa, .string wd]) := hid (by rw [<- hw6]; exact (HS4.out.below hb5 hl1).alloc _);have HR6 : Hid (Blk w6 (pt + 1) 32 #[.int .i64 0, .string ⟨#[]⟩, .string ⟨#[]⟩, .int .u8 0, .string ⟨#[]⟩, .string ⟨#[]⟩, .int .i64 0, .string ⟨#[]⟩]) := hid (by rw [<- hw6]; exact (HR4.out.below hb5 hl2).alloc _);have HX6 : Hid (Blk w6 w5.heap.size 32 #[.int .i64 k2, .string el2, .string at2, .int .u8 dl2, .string pe2, .string rf2, .int .i64 pa2, .string wd2]) := hid (by rw [<- hw6]; exact Blk.new w5 _ _);have hb45 := Hb4.out.trans (hb5.mono Hb4.out.size);have Hb6 : Hid (Below w.heap.size w w6) := hid (by rw [<- hw6]; exact hb45.alloc hb45.size _);have hne1 : Hid (¬ (pt + 1 = w5.heap.size)) := hid (by have := hb5.size; omega);have hne0 : Hid (¬ (w5.heap.size = pt)) := hid (by have := hb5.size; omega);rw [hw6];obtain ⟨u, hu⟩ := xE w5.heap.size;rw [hu] at HX6 hne1 hne0;rw [hu];clear hu HS4 HR4 Hb4 hb5 hb45 hw6 hl1 hl2 ht HO HN HU;obtain ⟨⟨e0, e1, e2, e3, e4, e5, e6, e7⟩, _⟩ := st_cells HX6.out;obtain ⟨q3, hq3⟩ := xE (er != 0);cases q3
    ·obtain ⟨⟨c0, c1, c2, c3, c4, c5, c6, c7⟩, f0, f1, f2, f3, f4, f5, f6, f7⟩ := st_cells HS6.out;go_wp2
     go_meet;exact ⟨_, _, _, _, _, _, _, _, ok2, st_put HS6.out, st_far HR6.out (by omega), Hb6.out.trans (st_put_below (by omega))⟩
    obtain ⟨⟨d0, d1, d2, d3, d4, d5, d6, d7⟩, g0, g1, g2, g3, g4, g5, g6, g7⟩ := st_cells HR6.out;go_wp2
    (try simp only [Exit.inBlock, Exit.then]);refine rc1 (pt + 1) (st_put HR6.out) ?_;exact ⟨_, _, _, _, _, _, _, _, _, rfl, ok2, Hb6.out.trans (st_put_below (by omega))⟩
   obtain ⟨⟨d0, d1, d2, d3, d4, d5, d6, d7⟩, g0, g1, g2, g3, g4, g5, g6, g7⟩ := st_cells HR3.out;go_wp2
   (try simp only [Exit.inBlock, Exit.then]);refine rc1 (pt + 1) (st_put (HR3.out.far (p := ⟨pt, 5, none⟩) (by simp) _)) ?_;exact ⟨_, _, _, _, _, _, _, _, _, rfl, hok.ref _ htz.out, (Hb3.out.setCell (p := ⟨pt, 5, none⟩) (Nat.le_of_eq hpt) _).trans (st_put_below (by omega))⟩
  have A2 := hid (HU.out k el at_ dl pe ⟨#[]⟩ pa wd x · (hok.ref _ (Nat.zero_le _)) (Nat.le_trans hxz.out (by omega)));go_wp2_with (go_at_call 121; refine (A2.out _).mono ?_; rintro e w4 ⟨k2, el2, at2, dl2, pe2, rf2, pa2, wd2, er, rfl, ok2, hb4⟩; have HR4 := hid ((HR2.out.far (by simp) _).below hb4 (by simpa using hl2)); have Hb4 : Hid (Below w.heap.size w w4) := hid ((Hb2.out.setCell (p := ⟨pt, 5, none⟩) (Nat.le_of_eq hpt) _).trans (hb4.mono (by simpa using Hb2.out.size))); clear c0 c1 c2 c3 c4 c5 c6 c7 f0 f1 f2 f3 f4 f5 f6 f7; obtain ⟨⟨d0, d1, d2, d3, d4, d5, d6, d7⟩, g0, g1, g2, g3, g4, g5, g6, g7⟩ := st_cells HR4.out)
  (try simp only [Exit.inBlock, Exit.then]);refine rc1 (pt + 1) (st_put HR4.out) ?_;exact ⟨_, _, _, _, _, _, _, _, _, rfl, ok2, Hb4.out.trans (st_put_below (by omega))⟩
 obtain ⟨k2, el2, at2, dl2, pe2, rf2, pa2, wd2, ok2, hs2, hr2, hb2⟩ := hcut
 have HS2 := hid hs2
 have HR2 := hid hr2
 have Hb2 := hid hb2
 have hl1 := hs2.lt
 have hl2 := hr2.lt
 clear c0 c1 c2 c3 c4 c5 c6 c7 f0 f1 f2 f3 f4 f5 f6 f7
 clear hs2 hr2 hb2
 obtain ⟨⟨c0, c1, c2, c3, c4, c5, c6, c7⟩, f0, f1, f2, f3, f4, f5, f6, f7⟩ := st_cells HS2.out
 obtain ⟨⟨d0, d1, d2, d3, d4, d5, d6, d7⟩, g0, g1, g2, g3, g4, g5, g6, g7⟩ := st_cells HR2.out
 have A3 := hid (HU.out k2 el2 at2 dl2 pe2 rf2 pa2 wd2 oc · ok2 (by rw [hoz.out]; omega))
 go_wp2_with (go_at_call 121; refine (A3.out _).mono ?_; rintro e w4 ⟨k3, el3, at3, dl3, pe3, rf3, pa3, wd3, er, rfl, ok3, hb4⟩; have HR4 := hid (HR2.out.below hb4 hl2); have Hb4 : Hid (Below w.heap.size w w4) := hid (Hb2.out.trans (hb4.mono Hb2.out.size)); clear c0 c1 c2 c3 c4 c5 c6 c7 f0 f1 f2 f3 f4 f5 f6 f7; clear d0 d1 d2 d3 d4 d5 d6 d7 g0 g1 g2 g3 g4 g5 g6 g7; obtain ⟨⟨d0, d1, d2, d3, d4, d5, d6, d7⟩, g0, g1, g2, g3, g4, g5, g6, g7⟩ := st_cells HR4.out)
 all_goals first
  | (
   (try simp only [Exit.inBlock, Exit.then]);refine rc1 (pt + 1) (st_put HR4.out) ?_;exact ⟨_, _, _, _, _, _, _, _, _, rfl, ok3, Hb4.out.trans (st_put_below (by omega))⟩
   done)
  | (
   (try simp only [Exit.inBlock, Exit.then]);refine rc1 (pt + 1) (st_put (HR2.out.far (p := ⟨pt, 5, none⟩) (by simp) _)) ?_;exact ⟨_, _, _, _, _, _, _, _, _, rfl, ok2.ref _ (Nat.le_trans (Nat.le_refl 1) (by omega)), (Hb2.out.setCell (p := ⟨pt, 5, none⟩) (Nat.le_of_eq hpt) _).trans (st_put_below (by omega))⟩
   done)
end Go.Proofs.YtkcnmjdomipbjaaGreat
