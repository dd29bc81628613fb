import Derived.Test.YtkcnmjdomipbjaaGreatS37
set_option linter.unusedVariables false
set_option maxHeartbeats 100000000
set_option maxRecDepth 100000
namespace Go.Proofs.YtkcnmjdomipbjaaGreat
open Go.RowKit
theorem StOk.word {m : Nat} {a b c d e : ByteArray} (h : StOk m a b c d e) (x : ByteArray) (hx : x.size <= m) : StOk m a b c d x := ⟨h.1, h.2.1, h.2.2.1, h.2.2.2.1, hx⟩
theorem below_putC {w w' : World} {B g : Nat} (h : Below B w w') (hg : B <= g) (o : Nat) (vs : List Value) : Below B w (w'.setCells g o vs) := by
 obtain ⟨h1, h2, h3, h4⟩ := setCells_same (g := g) vs o w'
 exact ⟨h1.trans h.os, h2.trans h.tape, h3.trans h.output, Nat.le_trans h.size (Nat.le_of_eq h4.symm), fun k hk => (setCells_far vs o w' (by omega)).trans (h.block k hk)⟩
structure HSt (pt : Nat) (w : World) (row : List Value) (wx : World) : Prop where
 pts : w.heap.size = pt
 blkS : Blk wx pt 32 row.toArray
 blkR : ∃ R : Array Value, R.size = 8 /\ Blk wx (pt + 1) 32 R
 bel : Below w.heap.size w wx
theorem HSt.below {pt : Nat} {w wx wy : World} {row : List Value} (h : HSt pt w row wx) (hb : Below wx.heap.size wx wy) : HSt pt w row wy :=
 ⟨h.pts, h.blkS.below hb h.blkS.lt, h.blkR.imp fun _ k => ⟨k.1, k.2.below hb k.2.lt⟩, h.bel.trans (hb.mono h.bel.size)⟩
theorem HSt.drew {pt : Nat} {w wx : World} {row : List Value} (h : HSt pt w row wx) : HSt pt w row wx.drew := h.below (Below.refl _ _).drew
theorem HSt.set_ {pt : Nat} {w wx : World} {row : List Value} (h : HSt pt w row wx) (i : Nat) (u : Value) : HSt pt w (row.set i u) (wx.setCell ⟨pt, i, none⟩ u) := by
 have hp := h.pts
 have e := h.blkS.set_ i u
 rw [List.setIfInBounds_toArray] at e
 exact ⟨h.pts, e, h.blkR.imp fun _ k => ⟨k.1, k.2.far (p := ⟨pt, i, none⟩) (by show pt + 1 ≠ pt; omega) _⟩, h.bel.setCell (p := ⟨pt, i, none⟩) (Nat.le_of_eq hp) _⟩
theorem hole_any (k : Int) (el at_ : ByteArray) (dl : Int) (pe rf : ByteArray) (pa : Int) (wd : ByteArray) (m : Nat) (w : World) (hm : 41 <= m) (hm2 : m <= 1048576) (hok : StOk m el at_ pe rf wd) : Calls Tryz.prog 61 #[.agg #[.int .i64 k, .string el, .string at_, .int .u8 dl, .string pe, .string rf, .int .i64 pa, .string wd]] w (PSI m w) := by
 have HK := hid (fun W => check13_any k el at_ dl pe rf pa wd W (hok.mono hm2))
 have HN := hid (fun W => kind13_any k el at_ dl pe rf pa wd W (Nat.le_trans hok.1 hm2) (Nat.le_trans hok.2.1 hm2))
 have HL := hid (fun p wd W => language_any k el at_ dl pe rf p wd W (Nat.le_trans hok.1 hm2) (Nat.le_trans hok.2.1 hm2))
 have HG := hid (fun W => begs_any ⟨#[47]⟩ el W (by decide) (Nat.le_trans hok.1 (by omega)))
 obtain ⟨W, hW⟩ := xE ((w.alloc (.cells #[.int .i64 k, .string el, .string at_, .int .u8 dl, .string pe, .string rf, .int .i64 pa, .string wd] 32)).alloc (.cells #[.int .i64 0, .string ⟨#[]⟩, .string ⟨#[]⟩, .int .u8 0, .string ⟨#[]⟩, .string ⟨#[]⟩, .int .i64 0, .string ⟨#[]⟩] 32))
 have HS : Hid (HSt w.heap.size w [.int .i64 k, .string el, .string at_, .int .u8 dl, .string pe, .string rf, .int .i64 pa, .string wd] W) := hid ⟨rfl, by rw [<- hW]; exact (Blk.new w _ _).alloc _, ⟨_, rfl, by rw [<- hW]; exact Blk.new_at _ _ (by simp) _ _⟩, by rw [<- hW]; go_grown⟩
 obtain ⟨pt, hpt⟩ := xE w.heap.size
 rw [hpt] at HS
 obtain ⟨⟨c0, c1, c2, c3, c4, c5, c6, c7⟩, -⟩ := st_cells HS.out.blkS
 go_enter Tryz.func61, Tryz.ntmps61
 go_upto_if 10 with (go_at_call 74; refine (HK.out _).mono ?_; rintro e w1 ⟨r, rfl, hr, hb1⟩; clear c0 c1 c2 c3 c4 c5 c6 c7)
 clear hW hr HK
 have HS1 := hid (HS.out.below hb1)
 clear HS hb1
 by_cases hr0 : r = 0
 ·subst hr0;obtain ⟨⟨-, -, -, -, c4, c5, -, -⟩, -⟩ := st_cells HS1.out.blkS;obtain ⟨qp, hqp⟩ := xE pe.toList.isEmpty;obtain ⟨qr, hqr⟩ := xE rf.toList.isEmpty;go_upto_region 4 with fail
  go_cut [20] from 7 (fun c wx => ∃ b : Bool, c = .bool b /\ wx = w1)
  case first => as_aux_lemma =>
   cases qp <;> cases qr
   all_goals (
    go_wp2_with fail
    all_goals (go_meet; exact ⟨_, rfl, rfl⟩))
  obtain ⟨b, rfl, hwc⟩ := hcut;obtain rfl := hwc;clear c4 c5 hqp hqr;cases b
  ·have c0 := (st_cells HS1.out.blkS).1.1;go_upto_block 0 with fail
   clear c0;go_cut [] from 7 (fun wx => HSt pt w [.int .i64 k, .string el, .string at_, .int .u8 dl, .string pe, .string rf, .int .i64 pa, .string wd] wx)
   case first => as_aux_lemma =>
    by_cases k0 : k = 0
    ·subst k0;go_upto_region 9 with fail
     refine wp_region_lit ?_;refine ld [.int .i64 0, .string el, .string at_, .int .u8 dl, .string pe, .string rf, .int .i64 pa, .string wd] HS1.out.blkS ?_;obtain ⟨R, hR, hBR⟩ := HS1.out.blkR;refine stI [.int .i64 0, .string el, .string at_, .int .u8 dl, .string pe, .string rf, .int .i64 pa, .string wd] hBR (by rw [hR]; rfl) rfl uState ?_;refine mv (.int .i64 1) ?_;refine mv (.int .i64 0) ?_;refine xn ?_;refine rc2 (pt + 1) (hBR.put (vs := [.int .i64 0, .string el, .string at_, .int .u8 dl, .string pe, .string rf, .int .i64 pa, .string wd]) (by rw [hR]; rfl)) ?_;exact ⟨_, _, _, _, _, _, _, _, _, _, rfl, hok, below_putC HS1.out.bel (by rw [HS1.out.pts]; omega) 0 [.int .i64 0, .string el, .string at_, .int .u8 dl, .string pe, .string rf, .int .i64 pa, .string wd]⟩
    have hk0 : (k == 0) = false := beq_eq_false_iff_ne.2 k0;by_cases k17 : k = 17
    ·subst k17;go_upto_region 11 with fail
     refine wp_region_lit ?_;refine ld [.int .i64 17, .string el, .string at_, .int .u8 dl, .string pe, .string rf, .int .i64 pa, .string wd] HS1.out.blkS ?_;obtain ⟨R, hR, hBR⟩ := HS1.out.blkR;refine stI [.int .i64 17, .string el, .string at_, .int .u8 dl, .string pe, .string rf, .int .i64 pa, .string wd] hBR (by rw [hR]; rfl) rfl uState ?_;refine mv (.int .i64 2) ?_;refine mv (.int .i64 0) ?_;refine xn ?_;refine rc2 (pt + 1) (hBR.put (vs := [.int .i64 17, .string el, .string at_, .int .u8 dl, .string pe, .string rf, .int .i64 pa, .string wd]) (by rw [hR]; rfl)) ?_;exact ⟨_, _, _, _, _, _, _, _, _, _, rfl, hok, below_putC HS1.out.bel (by rw [HS1.out.pts]; omega) 0 [.int .i64 17, .string el, .string at_, .int .u8 dl, .string pe, .string rf, .int .i64 pa, .string wd]⟩
    have hk17 : (k == 17) = false := beq_eq_false_iff_ne.2 k17;by_cases k18 : k = 18
    ·subst k18;go_wp2_with fail
     go_meet;exact HS1.out
    have hk18 : (k == 18) = false := beq_eq_false_iff_ne.2 k18;by_cases k19 : k = 19
    ·subst k19;go_wp2_with fail
     go_meet;exact HS1.out
    have hk19 : (k == 19) = false := beq_eq_false_iff_ne.2 k19;by_cases k9 : k = 9
    ·subst k9;obtain ⟨⟨c0, c1, c2, c3, c4, c5, c6, c7⟩, -⟩ := st_cells HS1.out.blkS;go_upto_region 15 with fail
     go_cut [44] from 7 (fun c wx => ∃ b : Bool, c = .bool b /\ HSt pt w [.int .i64 9, .string el, .string at_, .int .u8 dl, .string pe, .string rf, .int .i64 pa, .string wd] wx)
     case first => as_aux_lemma =>
      go_wp2_with (first
       | (go_at_call 76; refine (HN.out _).mono ?_; rintro e w2 ⟨kk, rfl, hb2⟩; clear c0 c1 c2 c3 c4 c5 c6 c7; have HS2 := hid (HS1.out.below hb2); have c1 := (st_cells HS2.out.blkS).1.2.1; obtain ⟨qk, hqk⟩ := xE (kk == 0); cases qk)
       | (go_at_call 35; refine (HG.out _).mono ?_; rintro e w3 ⟨b3, rfl, _, rfl⟩))
      all_goals (go_meet; exact ⟨_, rfl, HS2.out⟩)
     obtain ⟨b, rfl, hS2⟩ := hcut;have HS2 := hid hS2;clear hS2 c0 c1 c2 c3 c4 c5 c6 c7 HS1;cases b
     ·go_wp2_with fail
      go_meet;exact HS2.out
     skip;go_upto_region 16 with fail
     refine wp_region_lit ?_;refine ld [.int .i64 9, .string el, .string at_, .int .u8 dl, .string pe, .string rf, .int .i64 pa, .string wd] HS2.out.blkS ?_;obtain ⟨R, hR, hBR⟩ := HS2.out.blkR;refine stI [.int .i64 9, .string el, .string at_, .int .u8 dl, .string pe, .string rf, .int .i64 pa, .string wd] hBR (by rw [hR]; rfl) rfl uState ?_;refine mv (.int .i64 3) ?_;refine mv (.int .i64 0) ?_;refine xn ?_;refine rc2 (pt + 1) (hBR.put (vs := [.int .i64 9, .string el, .string at_, .int .u8 dl, .string pe, .string rf, .int .i64 pa, .string wd]) (by rw [hR]; rfl)) ?_;exact ⟨_, _, _, _, _, _, _, _, _, _, rfl, hok, below_putC HS2.out.bel (by rw [HS2.out.pts]; omega) 0 [.int .i64 9, .string el, .string at_, .int .u8 dl, .string pe, .string rf, .int .i64 pa, .string wd]⟩
    have hk9 : (k == 9) = false := beq_eq_false_iff_ne.2 k9;go_upto_region 7 with fail
    refine wp_region_lit ?_;refine mv (.agg #[.int .i64 0, .string ⟨#[]⟩, .string ⟨#[]⟩, .int .u8 0, .string ⟨#[]⟩, .string ⟨#[]⟩, .int .i64 0, .string ⟨#[]⟩]) ?_;obtain ⟨R, hR, hBR⟩ := HS1.out.blkR;refine stI [.int .i64 0, .string ⟨#[]⟩, .string ⟨#[]⟩, .int .u8 0, .string ⟨#[]⟩, .string ⟨#[]⟩, .int .i64 0, .string ⟨#[]⟩] hBR (by rw [hR]; rfl) rfl uState ?_;refine mv (.int .i64 0) ?_;refine mv (.int .i64 91) ?_;refine xn ?_;refine rc2 (pt + 1) (hBR.put (vs := [.int .i64 0, .string ⟨#[]⟩, .string ⟨#[]⟩, .int .u8 0, .string ⟨#[]⟩, .string ⟨#[]⟩, .int .i64 0, .string ⟨#[]⟩]) (by rw [hR]; rfl)) ?_;exact ⟨_, _, _, _, _, _, _, _, _, _, rfl, st_zero, below_putC HS1.out.bel (by rw [HS1.out.pts]; omega) 0 [.int .i64 0, .string ⟨#[]⟩, .string ⟨#[]⟩, .int .u8 0, .string ⟨#[]⟩, .string ⟨#[]⟩, .int .i64 0, .string ⟨#[]⟩]⟩
   obtain ⟨w2, rfl⟩ := xS wc;have HS2 := hid hcut;clear HS1 hcut HN HG;have c0 := (st_cells HS2.out.blkS).1.1;go_upto_if 48 with fail
   go_cut [6] from 7 (fun i wx => ∃ n : Int, i = .int .i64 n /\ 0 <= n /\ n <= 1 /\ wx = w2)
   case first => as_aux_lemma =>
    obtain ⟨q9, hq9⟩ := xE (k == 9);cases q9
    all_goals (
     go_wp2_with fail
     go_meet;exact ⟨_, rfl, by decide, by decide, rfl⟩)
   obtain ⟨n, rfl, hn0, hn1, hwc⟩ := hcut;obtain rfl := hwc;clear c0;obtain ⟨⟨c0, c1, c2, c3, c4, c5, c6, c7⟩, -⟩ := st_cells HS2.out.blkS;go_upto_region 21 with (go_at_call 77; refine (HL.out pa wd _).mono ?_; rintro e w3 ⟨lg, rfl, hb3⟩; clear c0 c1 c2 c3 c4 c5 c6 c7)
   have HS3 := hid (HS2.out.below hb3);clear hb3 HS2 HL;by_cases l1 : lg = 1
   ·subst l1;obtain ⟨c7, f7⟩ : wc.cell? ⟨0, 0, none⟩ = wc.cell? ⟨0, 0, none⟩ /\ True := ⟨rfl, trivial⟩
    clear c7 f7;have c7 := (st_cells HS3.out.blkS).1.2.2.2.2.2.2.2;have f7 := (st_cells HS3.out.blkS).2.2.2.2.2.2.2.2;go_upto_region 23 with fail
    obtain ⟨w4, hw4⟩ := xE (World.setCell w3 ⟨pt, 7, none⟩ (.string ⟨#[]⟩));have HS4 := hid (HS3.out.set_ 7 (.string ⟨#[]⟩));rw [hw4] at HS4 ⊢;clear hw4 c7 f7;have c6 := (st_cells HS4.out.blkS).1.2.2.2.2.2.2.1;have f6 := (st_cells HS4.out.blkS).2.2.2.2.2.2.2.1;by_cases p0 : pa = 0
    ·subst p0;go_upto_region 26 with fail
     obtain ⟨w5, hw5⟩ := xE (World.setCell w4 ⟨pt, 6, none⟩ (.int .i64 4));have HS5 := hid (HS4.out.set_ 6 (.int .i64 4));rw [hw5] at HS5 ⊢;clear hw5 c6 f6;go_upto_region 26 with fail
     refine wp_region_lit ?_;refine ld [.int .i64 k, .string el, .string at_, .int .u8 dl, .string pe, .string rf, .int .i64 4, .string ⟨#[]⟩] HS5.out.blkS ?_;obtain ⟨R, hR, hBR⟩ := HS5.out.blkR;refine stI [.int .i64 k, .string el, .string at_, .int .u8 dl, .string pe, .string rf, .int .i64 4, .string ⟨#[]⟩] hBR (by rw [hR]; rfl) rfl uState ?_;refine mv (.int .i64 4) ?_;refine mv (.int .i64 0) ?_;refine xn ?_;refine rc2 (pt + 1) (hBR.put (vs := [.int .i64 k, .string el, .string at_, .int .u8 dl, .string pe, .string rf, .int .i64 4, .string ⟨#[]⟩]) (by rw [hR]; rfl)) ?_;exact ⟨_, _, _, _, _, _, _, _, _, _, rfl, (hok.word _ (Nat.zero_le _)), below_putC HS5.out.bel (by rw [HS5.out.pts]; omega) 0 [.int .i64 k, .string el, .string at_, .int .u8 dl, .string pe, .string rf, .int .i64 4, .string ⟨#[]⟩]⟩
    have hp0 : (pa == 0) = false := beq_eq_false_iff_ne.2 p0;by_cases p23 : pa = 2 ∨ pa = 3
    ·skip;rcases p23 with rfl | rfl
     ·skip;go_upto_region 29 with fail
      refine wp_region_held_drew (S := fun wy => HSt pt w [.int .i64 k, .string el, .string at_, .int .u8 dl, .string pe, .string rf, .int .i64 2, .string ⟨#[]⟩] wy) (by kernel_rfl) HS4.out.drew (fun hHeld => ?_);refine tq 0 63 _ rfl (yl [.int .i64 k, .string el, .string at_, .int .u8 dl, .string pe, .string rf, .int .i64 2, .string ⟨#[]⟩] (fun wy h => h.blkS)) hHeld ?_;refine tk 1 64 (.pointer (some ⟨pt, 6, none⟩)) rfl hHeld ?_;refine tq 2 65 (.int .i64 2) rfl (yc pt 6 fun _ h => (st_cells h.blkS).1.2.2.2.2.2.2.1) hHeld ?_;refine tq 3 66 (.int .i64 5) rfl (yields_pure (by rfl) (fun w => by first | rfl | (go_simp; done) | (go_simp; rfl) | (go_simp; decide))) hHeld ?_;refine wpAnyH_ready (rs := [4]) (by kernel_rfl) (by simp) ?_;obtain ⟨R, hR, hBR⟩ := hHeld.blkR;refine storeH 4 (l := [.int .i64 k, .string el, .string at_, .int .u8 dl, .string pe, .string rf, .int .i64 2, .string ⟨#[]⟩]) rfl rfl (by rfl) _ _ rfl rfl rfl hBR (by rw [hR]; rfl) rfl uState ?_ AllReadyH.nil;have hR2 := hBR.put (vs := [.int .i64 k, .string el, .string at_, .int .u8 dl, .string pe, .string rf, .int .i64 2, .string ⟨#[]⟩]) (by rw [hR]; rfl);have hHeld4 : HSt pt w [.int .i64 k, .string el, .string at_, .int .u8 dl, .string pe, .string rf, .int .i64 2, .string ⟨#[]⟩] (w4.drew.setCells (pt + 1) 0 [.int .i64 k, .string el, .string at_, .int .u8 dl, .string pe, .string rf, .int .i64 2, .string ⟨#[]⟩]) := ⟨hHeld.pts, hHeld.blkS.farC (by omega) _ _, ⟨_, rfl, hR2⟩, below_putC hHeld.bel (by rw [hHeld.pts]; omega) _ _⟩
      refine ⟨hHeld4, ?_⟩;refine tk 5 3 (.int .i64 5) rfl hHeld4 ?_;refine tk 6 4 (.int .i64 0) rfl hHeld4 ?_;refine xh ?_;refine rc2 (pt + 1) hR2 ?_;exact ⟨_, _, _, _, _, _, _, _, _, _, rfl, (hok.word _ (Nat.zero_le _)), hHeld4.bel⟩
     skip;go_upto_region 29 with fail
     refine wp_region_held_drew (S := fun wy => HSt pt w [.int .i64 k, .string el, .string at_, .int .u8 dl, .string pe, .string rf, .int .i64 3, .string ⟨#[]⟩] wy) (by kernel_rfl) HS4.out.drew (fun hHeld => ?_);refine tq 0 63 _ rfl (yl [.int .i64 k, .string el, .string at_, .int .u8 dl, .string pe, .string rf, .int .i64 3, .string ⟨#[]⟩] (fun wy h => h.blkS)) hHeld ?_;refine tk 1 64 (.pointer (some ⟨pt, 6, none⟩)) rfl hHeld ?_;refine tq 2 65 (.int .i64 3) rfl (yc pt 6 fun _ h => (st_cells h.blkS).1.2.2.2.2.2.2.1) hHeld ?_;refine tq 3 66 (.int .i64 6) rfl (yields_pure (by rfl) (fun w => by first | rfl | (go_simp; done) | (go_simp; rfl) | (go_simp; decide))) hHeld ?_;refine wpAnyH_ready (rs := [4]) (by kernel_rfl) (by simp) ?_;obtain ⟨R, hR, hBR⟩ := hHeld.blkR;refine storeH 4 (l := [.int .i64 k, .string el, .string at_, .int .u8 dl, .string pe, .string rf, .int .i64 3, .string ⟨#[]⟩]) rfl rfl (by rfl) _ _ rfl rfl rfl hBR (by rw [hR]; rfl) rfl uState ?_ AllReadyH.nil;have hR2 := hBR.put (vs := [.int .i64 k, .string el, .string at_, .int .u8 dl, .string pe, .string rf, .int .i64 3, .string ⟨#[]⟩]) (by rw [hR]; rfl);have hHeld4 : HSt pt w [.int .i64 k, .string el, .string at_, .int .u8 dl, .string pe, .string rf, .int .i64 3, .string ⟨#[]⟩] (w4.drew.setCells (pt + 1) 0 [.int .i64 k, .string el, .string at_, .int .u8 dl, .string pe, .string rf, .int .i64 3, .string ⟨#[]⟩]) := ⟨hHeld.pts, hHeld.blkS.farC (by omega) _ _, ⟨_, rfl, hR2⟩, below_putC hHeld.bel (by rw [hHeld.pts]; omega) _ _⟩
     refine ⟨hHeld4, ?_⟩;refine tk 5 3 (.int .i64 6) rfl hHeld4 ?_;refine tk 6 4 (.int .i64 0) rfl hHeld4 ?_;refine xh ?_;refine rc2 (pt + 1) hR2 ?_;exact ⟨_, _, _, _, _, _, _, _, _, _, rfl, (hok.word _ (Nat.zero_le _)), hHeld4.bel⟩
    have hp2 : (pa == 2) = false := beq_eq_false_iff_ne.2 (fun e => p23 (.inl e));have hp3 : (pa == 3) = false := beq_eq_false_iff_ne.2 (fun e => p23 (.inr e));go_upto_region 44 with fail
    refine wp_region_lit ?_;refine mv (.agg #[.int .i64 0, .string ⟨#[]⟩, .string ⟨#[]⟩, .int .u8 0, .string ⟨#[]⟩, .string ⟨#[]⟩, .int .i64 0, .string ⟨#[]⟩]) ?_;obtain ⟨R, hR, hBR⟩ := HS4.out.blkR;refine stI [.int .i64 0, .string ⟨#[]⟩, .string ⟨#[]⟩, .int .u8 0, .string ⟨#[]⟩, .string ⟨#[]⟩, .int .i64 0, .string ⟨#[]⟩] hBR (by rw [hR]; rfl) rfl uState ?_;refine mv (.int .i64 0) ?_;refine mv (.int .i64 91) ?_;refine xn ?_;refine rc2 (pt + 1) (hBR.put (vs := [.int .i64 0, .string ⟨#[]⟩, .string ⟨#[]⟩, .int .u8 0, .string ⟨#[]⟩, .string ⟨#[]⟩, .int .i64 0, .string ⟨#[]⟩]) (by rw [hR]; rfl)) ?_;exact ⟨_, _, _, _, _, _, _, _, _, _, rfl, st_zero, below_putC HS4.out.bel (by rw [HS4.out.pts]; omega) 0 [.int .i64 0, .string ⟨#[]⟩, .string ⟨#[]⟩, .int .u8 0, .string ⟨#[]⟩, .string ⟨#[]⟩, .int .i64 0, .string ⟨#[]⟩]⟩
   have hl1 : (lg == 1) = false := beq_eq_false_iff_ne.2 l1;by_cases l2 : lg = 2
   ·subst l2;have c7 := (st_cells HS3.out.blkS).1.2.2.2.2.2.2.2;have f7 := (st_cells HS3.out.blkS).2.2.2.2.2.2.2.2;go_upto_region 32 with fail
    obtain ⟨w4, hw4⟩ := xE (World.setCell w3 ⟨pt, 7, none⟩ (.string ⟨#[]⟩));have HS4 := hid (HS3.out.set_ 7 (.string ⟨#[]⟩));rw [hw4] at HS4 ⊢;clear hw4 c7 f7;have c6 := (st_cells HS4.out.blkS).1.2.2.2.2.2.2.1;have f6 := (st_cells HS4.out.blkS).2.2.2.2.2.2.2.1;by_cases p0 : pa = 0
    ·subst p0;go_upto_region 36 with fail
     obtain ⟨w5, hw5⟩ := xE (World.setCell w4 ⟨pt, 6, none⟩ (.int .i64 1));have HS5 := hid (HS4.out.set_ 6 (.int .i64 1));rw [hw5] at HS5 ⊢;clear hw5 c6 f6;rcases (show n = 0 ∨ n = 1 by omega) with rfl | rfl
     ·skip;go_upto_region 36 with fail
      refine wp_region_lit ?_;refine ld [.int .i64 k, .string el, .string at_, .int .u8 dl, .string pe, .string rf, .int .i64 1, .string ⟨#[]⟩] HS5.out.blkS ?_;refine mv (.int .i64 0) ?_;refine mv (.int .i64 0) ?_;refine mv (.int .i64 7) ?_;obtain ⟨R, hR, hBR⟩ := HS5.out.blkR;refine stI [.int .i64 k, .string el, .string at_, .int .u8 dl, .string pe, .string rf, .int .i64 1, .string ⟨#[]⟩] hBR (by rw [hR]; rfl) rfl uState ?_;refine mv (.int .i64 7) ?_;refine mv (.int .i64 0) ?_;refine xn ?_;refine rc2 (pt + 1) (hBR.put (vs := [.int .i64 k, .string el, .string at_, .int .u8 dl, .string pe, .string rf, .int .i64 1, .string ⟨#[]⟩]) (by rw [hR]; rfl)) ?_;exact ⟨_, _, _, _, _, _, _, _, _, _, rfl, (hok.word _ (Nat.zero_le _)), below_putC HS5.out.bel (by rw [HS5.out.pts]; omega) 0 [.int .i64 k, .string el, .string at_, .int .u8 dl, .string pe, .string rf, .int .i64 1, .string ⟨#[]⟩]⟩
     skip;go_upto_region 36 with fail
     refine wp_region_lit ?_;refine ld [.int .i64 k, .string el, .string at_, .int .u8 dl, .string pe, .string rf, .int .i64 1, .string ⟨#[]⟩] HS5.out.blkS ?_;refine mv (.int .i64 1) ?_;refine mv (.int .i64 2) ?_;refine mv (.int .i64 9) ?_;obtain ⟨R, hR, hBR⟩ := HS5.out.blkR;refine stI [.int .i64 k, .string el, .string at_, .int .u8 dl, .string pe, .string rf, .int .i64 1, .string ⟨#[]⟩] hBR (by rw [hR]; rfl) rfl uState ?_;refine mv (.int .i64 9) ?_;refine mv (.int .i64 0) ?_;refine xn ?_;refine rc2 (pt + 1) (hBR.put (vs := [.int .i64 k, .string el, .string at_, .int .u8 dl, .string pe, .string rf, .int .i64 1, .string ⟨#[]⟩]) (by rw [hR]; rfl)) ?_;exact ⟨_, _, _, _, _, _, _, _, _, _, rfl, (hok.word _ (Nat.zero_le _)), below_putC HS5.out.bel (by rw [HS5.out.pts]; omega) 0 [.int .i64 k, .string el, .string at_, .int .u8 dl, .string pe, .string rf, .int .i64 1, .string ⟨#[]⟩]⟩
    have hp0 : (pa == 0) = false := beq_eq_false_iff_ne.2 p0;by_cases p1 : pa = 1
    ·subst p1;go_upto_region 36 with fail
     obtain ⟨w5, hw5⟩ := xE (World.setCell w4 ⟨pt, 6, none⟩ (.int .i64 1));have HS5 := hid (HS4.out.set_ 6 (.int .i64 1));rw [hw5] at HS5 ⊢;clear hw5 c6 f6;rcases (show n = 0 ∨ n = 1 by omega) with rfl | rfl
     ·skip;go_upto_region 36 with fail
      refine wp_region_lit ?_;refine ld [.int .i64 k, .string el, .string at_, .int .u8 dl, .string pe, .string rf, .int .i64 1, .string ⟨#[]⟩] HS5.out.blkS ?_;refine mv (.int .i64 0) ?_;refine mv (.int .i64 0) ?_;refine mv (.int .i64 7) ?_;obtain ⟨R, hR, hBR⟩ := HS5.out.blkR;refine stI [.int .i64 k, .string el, .string at_, .int .u8 dl, .string pe, .string rf, .int .i64 1, .string ⟨#[]⟩] hBR (by rw [hR]; rfl) rfl uState ?_;refine mv (.int .i64 7) ?_;refine mv (.int .i64 0) ?_;refine xn ?_;refine rc2 (pt + 1) (hBR.put (vs := [.int .i64 k, .string el, .string at_, .int .u8 dl, .string pe, .string rf, .int .i64 1, .string ⟨#[]⟩]) (by rw [hR]; rfl)) ?_;exact ⟨_, _, _, _, _, _, _, _, _, _, rfl, (hok.word _ (Nat.zero_le _)), below_putC HS5.out.bel (by rw [HS5.out.pts]; omega) 0 [.int .i64 k, .string el, .string at_, .int .u8 dl, .string pe, .string rf, .int .i64 1, .string ⟨#[]⟩]⟩
     skip;go_upto_region 36 with fail
     refine wp_region_lit ?_;refine ld [.int .i64 k, .string el, .string at_, .int .u8 dl, .string pe, .string rf, .int .i64 1, .string ⟨#[]⟩] HS5.out.blkS ?_;refine mv (.int .i64 1) ?_;refine mv (.int .i64 2) ?_;refine mv (.int .i64 9) ?_;obtain ⟨R, hR, hBR⟩ := HS5.out.blkR;refine stI [.int .i64 k, .string el, .string at_, .int .u8 dl, .string pe, .string rf, .int .i64 1, .string ⟨#[]⟩] hBR (by rw [hR]; rfl) rfl uState ?_;refine mv (.int .i64 9) ?_;refine mv (.int .i64 0) ?_;refine xn ?_;refine rc2 (pt + 1) (hBR.put (vs := [.int .i64 k, .string el, .string at_, .int .u8 dl, .string pe, .string rf, .int .i64 1, .string ⟨#[]⟩]) (by rw [hR]; rfl)) ?_;exact ⟨_, _, _, _, _, _, _, _, _, _, rfl, (hok.word _ (Nat.zero_le _)), below_putC HS5.out.bel (by rw [HS5.out.pts]; omega) 0 [.int .i64 k, .string el, .string at_, .int .u8 dl, .string pe, .string rf, .int .i64 1, .string ⟨#[]⟩]⟩
    have hp1 : (pa == 1) = false := beq_eq_false_iff_ne.2 p1;by_cases p23 : pa = 2 ∨ pa = 3
    ·rcases p23 with rfl | rfl
     ·skip;rcases (show n = 0 ∨ n = 1 by omega) with rfl | rfl
      ·skip;go_upto_region 39 with fail
       refine wp_region_lit ?_;refine ld [.int .i64 k, .string el, .string at_, .int .u8 dl, .string pe, .string rf, .int .i64 2, .string ⟨#[]⟩] HS4.out.blkS ?_;refine mv (.int .i64 0) ?_;refine mv (.int .i64 0) ?_;refine mv (.int .i64 8) ?_;obtain ⟨R, hR, hBR⟩ := HS4.out.blkR;refine stI [.int .i64 k, .string el, .string at_, .int .u8 dl, .string pe, .string rf, .int .i64 2, .string ⟨#[]⟩] hBR (by rw [hR]; rfl) rfl uState ?_;refine mv (.int .i64 8) ?_;refine mv (.int .i64 0) ?_;refine xn ?_;refine rc2 (pt + 1) (hBR.put (vs := [.int .i64 k, .string el, .string at_, .int .u8 dl, .string pe, .string rf, .int .i64 2, .string ⟨#[]⟩]) (by rw [hR]; rfl)) ?_;exact ⟨_, _, _, _, _, _, _, _, _, _, rfl, (hok.word _ (Nat.zero_le _)), below_putC HS4.out.bel (by rw [HS4.out.pts]; omega) 0 [.int .i64 k, .string el, .string at_, .int .u8 dl, .string pe, .string rf, .int .i64 2, .string ⟨#[]⟩]⟩
      skip;go_upto_region 39 with fail
      refine wp_region_lit ?_;refine ld [.int .i64 k, .string el, .string at_, .int .u8 dl, .string pe, .string rf, .int .i64 2, .string ⟨#[]⟩] HS4.out.blkS ?_;refine mv (.int .i64 1) ?_;refine mv (.int .i64 2) ?_;refine mv (.int .i64 10) ?_;obtain ⟨R, hR, hBR⟩ := HS4.out.blkR;refine stI [.int .i64 k, .string el, .string at_, .int .u8 dl, .string pe, .string rf, .int .i64 2, .string ⟨#[]⟩] hBR (by rw [hR]; rfl) rfl uState ?_;refine mv (.int .i64 10) ?_;refine mv (.int .i64 0) ?_;refine xn ?_;refine rc2 (pt + 1) (hBR.put (vs := [.int .i64 k, .string el, .string at_, .int .u8 dl, .string pe, .string rf, .int .i64 2, .string ⟨#[]⟩]) (by rw [hR]; rfl)) ?_;exact ⟨_, _, _, _, _, _, _, _, _, _, rfl, (hok.word _ (Nat.zero_le _)), below_putC HS4.out.bel (by rw [HS4.out.pts]; omega) 0 [.int .i64 k, .string el, .string at_, .int .u8 dl, .string pe, .string rf, .int .i64 2, .string ⟨#[]⟩]⟩
     skip;rcases (show n = 0 ∨ n = 1 by omega) with rfl | rfl
     ·skip;go_upto_region 39 with fail
      refine wp_region_lit ?_;refine ld [.int .i64 k, .string el, .string at_, .int .u8 dl, .string pe, .string rf, .int .i64 3, .string ⟨#[]⟩] HS4.out.blkS ?_;refine mv (.int .i64 0) ?_;refine mv (.int .i64 0) ?_;refine mv (.int .i64 8) ?_;obtain ⟨R, hR, hBR⟩ := HS4.out.blkR;refine stI [.int .i64 k, .string el, .string at_, .int .u8 dl, .string pe, .string rf, .int .i64 3, .string ⟨#[]⟩] hBR (by rw [hR]; rfl) rfl uState ?_;refine mv (.int .i64 8) ?_;refine mv (.int .i64 0) ?_;refine xn ?_;refine rc2 (pt + 1) (hBR.put (vs := [.int .i64 k, .string el, .string at_, .int .u8 dl, .string pe, .string rf, .int .i64 3, .string ⟨#[]⟩]) (by rw [hR]; rfl)) ?_;exact ⟨_, _, _, _, _, _, _, _, _, _, rfl, (hok.word _ (Nat.zero_le _)), below_putC HS4.out.bel (by rw [HS4.out.pts]; omega) 0 [.int .i64 k, .string el, .string at_, .int .u8 dl, .string pe, .string rf, .int .i64 3, .string ⟨#[]⟩]⟩
     skip;go_upto_region 39 with fail
     refine wp_region_lit ?_;refine ld [.int .i64 k, .string el, .string at_, .int .u8 dl, .string pe, .string rf, .int .i64 3, .string ⟨#[]⟩] HS4.out.blkS ?_;refine mv (.int .i64 1) ?_;refine mv (.int .i64 2) ?_;refine mv (.int .i64 10) ?_;obtain ⟨R, hR, hBR⟩ := HS4.out.blkR;refine stI [.int .i64 k, .string el, .string at_, .int .u8 dl, .string pe, .string rf, .int .i64 3, .string ⟨#[]⟩] hBR (by rw [hR]; rfl) rfl uState ?_;refine mv (.int .i64 10) ?_;refine mv (.int .i64 0) ?_;refine xn ?_;refine rc2 (pt + 1) (hBR.put (vs := [.int .i64 k, .string el, .string at_, .int .u8 dl, .string pe, .string rf, .int .i64 3, .string ⟨#[]⟩]) (by rw [hR]; rfl)) ?_;exact ⟨_, _, _, _, _, _, _, _, _, _, rfl, (hok.word _ (Nat.zero_le _)), below_putC HS4.out.bel (by rw [HS4.out.pts]; omega) 0 [.int .i64 k, .string el, .string at_, .int .u8 dl, .string pe, .string rf, .int .i64 3, .string ⟨#[]⟩]⟩
    have hp2 : (pa == 2) = false := beq_eq_false_iff_ne.2 (fun e => p23 (.inl e));have hp3 : (pa == 3) = false := beq_eq_false_iff_ne.2 (fun e => p23 (.inr e));go_upto_region 44 with fail
    refine wp_region_lit ?_;refine mv (.agg #[.int .i64 0, .string ⟨#[]⟩, .string ⟨#[]⟩, .int .u8 0, .string ⟨#[]⟩, .string ⟨#[]⟩, .int .i64 0, .string ⟨#[]⟩]) ?_;obtain ⟨R, hR, hBR⟩ := HS4.out.blkR;refine stI [.int .i64 0, .string ⟨#[]⟩, .string ⟨#[]⟩, .int .u8 0, .string ⟨#[]⟩, .string ⟨#[]⟩, .int .i64 0, .string ⟨#[]⟩] hBR (by rw [hR]; rfl) rfl uState ?_;refine mv (.int .i64 0) ?_;refine mv (.int .i64 91) ?_;refine xn ?_;refine rc2 (pt + 1) (hBR.put (vs := [.int .i64 0, .string ⟨#[]⟩, .string ⟨#[]⟩, .int .u8 0, .string ⟨#[]⟩, .string ⟨#[]⟩, .int .i64 0, .string ⟨#[]⟩]) (by rw [hR]; rfl)) ?_;exact ⟨_, _, _, _, _, _, _, _, _, _, rfl, st_zero, below_putC HS4.out.bel (by rw [HS4.out.pts]; omega) 0 [.int .i64 0, .string ⟨#[]⟩, .string ⟨#[]⟩, .int .u8 0, .string ⟨#[]⟩, .string ⟨#[]⟩, .int .i64 0, .string ⟨#[]⟩]⟩
   have hl2 : (lg == 2) = false := beq_eq_false_iff_ne.2 l2;by_cases l3 : lg = 3
   ·subst l3;have c6 := (st_cells HS3.out.blkS).1.2.2.2.2.2.2.1;have c7 := (st_cells HS3.out.blkS).1.2.2.2.2.2.2.2;have f7 := (st_cells HS3.out.blkS).2.2.2.2.2.2.2.2;by_cases p0 : pa = 0
    ·subst p0;go_upto_region 43 with fail
     clear c6;obtain ⟨w4, hw4⟩ := xE (World.setCell w3 ⟨pt, 7, none⟩ (.string ⟨#[63]⟩));have HS4 := hid (HS3.out.set_ 7 (.string ⟨#[63]⟩));rw [hw4] at HS4 ⊢;clear hw4 c7 f7;rcases (show n = 0 ∨ n = 1 by omega) with rfl | rfl
     ·skip;go_upto_region 43 with fail
      refine wp_region_lit ?_;refine ld [.int .i64 k, .string el, .string at_, .int .u8 dl, .string pe, .string rf, .int .i64 0, .string ⟨#[63]⟩] HS4.out.blkS ?_;refine mv (.int .i64 0) ?_;refine mv (.int .i64 11) ?_;obtain ⟨R, hR, hBR⟩ := HS4.out.blkR;refine stI [.int .i64 k, .string el, .string at_, .int .u8 dl, .string pe, .string rf, .int .i64 0, .string ⟨#[63]⟩] hBR (by rw [hR]; rfl) rfl uState ?_;refine mv (.int .i64 11) ?_;refine mv (.int .i64 0) ?_;refine xn ?_;refine rc2 (pt + 1) (hBR.put (vs := [.int .i64 k, .string el, .string at_, .int .u8 dl, .string pe, .string rf, .int .i64 0, .string ⟨#[63]⟩]) (by rw [hR]; rfl)) ?_;exact ⟨_, _, _, _, _, _, _, _, _, _, rfl, (hok.word _ (by show 1 <= m; omega)), below_putC HS4.out.bel (by rw [HS4.out.pts]; omega) 0 [.int .i64 k, .string el, .string at_, .int .u8 dl, .string pe, .string rf, .int .i64 0, .string ⟨#[63]⟩]⟩
     skip;go_upto_region 43 with fail
     refine wp_region_lit ?_;refine ld [.int .i64 k, .string el, .string at_, .int .u8 dl, .string pe, .string rf, .int .i64 0, .string ⟨#[63]⟩] HS4.out.blkS ?_;refine mv (.int .i64 1) ?_;refine mv (.int .i64 12) ?_;obtain ⟨R, hR, hBR⟩ := HS4.out.blkR;refine stI [.int .i64 k, .string el, .string at_, .int .u8 dl, .string pe, .string rf, .int .i64 0, .string ⟨#[63]⟩] hBR (by rw [hR]; rfl) rfl uState ?_;refine mv (.int .i64 12) ?_;refine mv (.int .i64 0) ?_;refine xn ?_;refine rc2 (pt + 1) (hBR.put (vs := [.int .i64 k, .string el, .string at_, .int .u8 dl, .string pe, .string rf, .int .i64 0, .string ⟨#[63]⟩]) (by rw [hR]; rfl)) ?_;exact ⟨_, _, _, _, _, _, _, _, _, _, rfl, (hok.word _ (by show 1 <= m; omega)), below_putC HS4.out.bel (by rw [HS4.out.pts]; omega) 0 [.int .i64 k, .string el, .string at_, .int .u8 dl, .string pe, .string rf, .int .i64 0, .string ⟨#[63]⟩]⟩
    have hp0 : (pa == 0) = false := beq_eq_false_iff_ne.2 p0;go_upto_region 44 with fail
    refine wp_region_lit ?_;refine mv (.agg #[.int .i64 0, .string ⟨#[]⟩, .string ⟨#[]⟩, .int .u8 0, .string ⟨#[]⟩, .string ⟨#[]⟩, .int .i64 0, .string ⟨#[]⟩]) ?_;obtain ⟨R, hR, hBR⟩ := HS3.out.blkR;refine stI [.int .i64 0, .string ⟨#[]⟩, .string ⟨#[]⟩, .int .u8 0, .string ⟨#[]⟩, .string ⟨#[]⟩, .int .i64 0, .string ⟨#[]⟩] hBR (by rw [hR]; rfl) rfl uState ?_;refine mv (.int .i64 0) ?_;refine mv (.int .i64 91) ?_;refine xn ?_;refine rc2 (pt + 1) (hBR.put (vs := [.int .i64 0, .string ⟨#[]⟩, .string ⟨#[]⟩, .int .u8 0, .string ⟨#[]⟩, .string ⟨#[]⟩, .int .i64 0, .string ⟨#[]⟩]) (by rw [hR]; rfl)) ?_;exact ⟨_, _, _, _, _, _, _, _, _, _, rfl, st_zero, below_putC HS3.out.bel (by rw [HS3.out.pts]; omega) 0 [.int .i64 0, .string ⟨#[]⟩, .string ⟨#[]⟩, .int .u8 0, .string ⟨#[]⟩, .string ⟨#[]⟩, .int .i64 0, .string ⟨#[]⟩]⟩
   have hl3 : (lg == 3) = false := beq_eq_false_iff_ne.2 l3;go_upto_region 44 with fail
   refine wp_region_lit ?_;refine mv (.agg #[.int .i64 0, .string ⟨#[]⟩, .string ⟨#[]⟩, .int .u8 0, .string ⟨#[]⟩, .string ⟨#[]⟩, .int .i64 0, .string ⟨#[]⟩]) ?_;obtain ⟨R, hR, hBR⟩ := HS3.out.blkR;refine stI [.int .i64 0, .string ⟨#[]⟩, .string ⟨#[]⟩, .int .u8 0, .string ⟨#[]⟩, .string ⟨#[]⟩, .int .i64 0, .string ⟨#[]⟩] hBR (by rw [hR]; rfl) rfl uState ?_;refine mv (.int .i64 0) ?_;refine mv (.int .i64 91) ?_;refine xn ?_;refine rc2 (pt + 1) (hBR.put (vs := [.int .i64 0, .string ⟨#[]⟩, .string ⟨#[]⟩, .int .u8 0, .string ⟨#[]⟩, .string ⟨#[]⟩, .int .i64 0, .string ⟨#[]⟩]) (by rw [hR]; rfl)) ?_;exact ⟨_, _, _, _, _, _, _, _, _, _, rfl, st_zero, below_putC HS3.out.bel (by rw [HS3.out.pts]; omega) 0 [.int .i64 0, .string ⟨#[]⟩, .string ⟨#[]⟩, .int .u8 0, .string ⟨#[]⟩, .string ⟨#[]⟩, .int .i64 0, .string ⟨#[]⟩]⟩
  skip;go_upto_region 5 with fail
  refine wp_region_lit ?_;refine mv (.agg #[.int .i64 0, .string ⟨#[]⟩, .string ⟨#[]⟩, .int .u8 0, .string ⟨#[]⟩, .string ⟨#[]⟩, .int .i64 0, .string ⟨#[]⟩]) ?_;obtain ⟨R, hR, hBR⟩ := HS1.out.blkR;refine stI [.int .i64 0, .string ⟨#[]⟩, .string ⟨#[]⟩, .int .u8 0, .string ⟨#[]⟩, .string ⟨#[]⟩, .int .i64 0, .string ⟨#[]⟩] hBR (by rw [hR]; rfl) rfl uState ?_;refine mv (.int .i64 0) ?_;refine mv (.int .i64 91) ?_;refine xn ?_;refine rc2 (pt + 1) (hBR.put (vs := [.int .i64 0, .string ⟨#[]⟩, .string ⟨#[]⟩, .int .u8 0, .string ⟨#[]⟩, .string ⟨#[]⟩, .int .i64 0, .string ⟨#[]⟩]) (by rw [hR]; rfl)) ?_;exact ⟨_, _, _, _, _, _, _, _, _, _, rfl, st_zero, below_putC HS1.out.bel (by rw [HS1.out.pts]; omega) 0 [.int .i64 0, .string ⟨#[]⟩, .string ⟨#[]⟩, .int .u8 0, .string ⟨#[]⟩, .string ⟨#[]⟩, .int .i64 0, .string ⟨#[]⟩]⟩
 have hr0b : (r != 0) = true := bne_iff_ne.2 hr0
 go_upto_region 3 with fail
 refine wp_region_lit ?_
 refine mv (.agg #[.int .i64 0, .string ⟨#[]⟩, .string ⟨#[]⟩, .int .u8 0, .string ⟨#[]⟩, .string ⟨#[]⟩, .int .i64 0, .string ⟨#[]⟩]) ?_
 refine mv (.int .i64 r) ?_
 obtain ⟨R, hR, hBR⟩ := HS1.out.blkR
 refine stI [.int .i64 0, .string ⟨#[]⟩, .string ⟨#[]⟩, .int .u8 0, .string ⟨#[]⟩, .string ⟨#[]⟩, .int .i64 0, .string ⟨#[]⟩] hBR (by rw [hR]; rfl) rfl uState ?_
 refine mv (.int .i64 0) ?_
 refine mv (.int .i64 r) ?_
 refine xn ?_
 refine rc2 (pt + 1) (hBR.put (vs := [.int .i64 0, .string ⟨#[]⟩, .string ⟨#[]⟩, .int .u8 0, .string ⟨#[]⟩, .string ⟨#[]⟩, .int .i64 0, .string ⟨#[]⟩]) (by rw [hR]; rfl)) ?_
 exact ⟨_, _, _, _, _, _, _, _, _, _, rfl, st_zero, below_putC HS1.out.bel (by rw [HS1.out.pts]; omega) 0 [.int .i64 0, .string ⟨#[]⟩, .string ⟨#[]⟩, .int .u8 0, .string ⟨#[]⟩, .string ⟨#[]⟩, .int .i64 0, .string ⟨#[]⟩]⟩
end Go.Proofs.YtkcnmjdomipbjaaGreat
