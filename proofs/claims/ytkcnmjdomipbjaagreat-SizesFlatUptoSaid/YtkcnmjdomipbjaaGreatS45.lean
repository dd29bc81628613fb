import Derived.BigRegion
import Derived.Test.YtkcnmjdomipbjaaGreatS44
set_option linter.unusedVariables false
set_option maxHeartbeats 100000000
set_option maxRecDepth 100000
namespace Go.Proofs.YtkcnmjdomipbjaaGreat
open Go.RowKit
theorem countK (base pb : Nat) (I : List It) (ad0 : Addr) (c0 k sz : Nat) (vd : Value) (a : Int) (w : World) (h : PK base pb I ad0 c0 k sz vd w) (hsz : sz <= 1024) : Calls Tryz.prog 40 #[.pointer (some ⟨pb, 0, none⟩), .int .i64 a] w (fun e w' => ∃ b : Bool, e = .returned (.bool b) /\ PK base pb I ad0 c0 k (if b = true then sz + 1 else sz) vd w' /\ (b = true -> sz + 1 <= 1024) /\ TF XQ base w w') := by
 obtain ⟨AL, cL, h1, h3⟩ := h
 refine (count20_any base pb (I.drop k) sz vd AL cL a w h1 hsz).mono ?_
 rintro e w1 ⟨b, he, hp, hb, ht⟩
 exact ⟨b, he, ⟨AL, cL, hp, h3⟩, hb, ht⟩
theorem pipeK (base pb : Nat) (I : List It) (ad0 : Addr) (c0 k sz : Nat) (vd : Value) (pw : Pw) (n : Nat) (hn : pw.ws.length = n) (A : Option Addr) (c : Nat) (j : Nat) (hj : j <= n) (w : World) (h : PK base pb I ad0 c0 k sz vd w) (hw : PwAt base pw A c w) (h1 : 1 <= n) : Calls Tryz.prog 58 #[.pointer (some ⟨pb, 0, none⟩), .agg #[.slice A n c, .string pw.hd, .int .i64 pw.pl], .int .i64 (j : Int)] w (fun e w' => ∃ (v : Value) (cs : List Ca) (b : Bool), e = .returned (.tuple #[v, .bool b]) /\ DtN 0 w.heap.size w' v (.rows 2 (cs.map Ca.row)) /\ (∀ c ∈ cs, CaOk c) /\ cs.length <= 16 /\ PK base pb I ad0 c0 k sz vd w' /\ TF XQ base w w') := by
 obtain ⟨AL, cL, h2, h3⟩ := h
 have hA : A ≠ none := by
  rintro rfl;obtain ⟨ad, h, _⟩ := RowsV.get hw.1 (k := 0) (by show 0 < pw.ws.length; omega);cases h
 refine (pipe20_any base pb (I.drop k) sz vd AL cL pw n hn A c j hj w h2 hw hA).mono ?_
 rintro e w1 ⟨v, cs, b, he, hd, hok, hl, hp, ht⟩
 exact ⟨v, cs, b, he, hd, hok, hl, ⟨AL, cL, hp, h3⟩, ht⟩
theorem block_any (base pb : Nat) (I : List It) (ad0 : Addr) (c0 deep k0 : Nat) (hdeep : deep <= 16) (hN : deep < 16 -> ∀ k, k0 <= k -> NodesC base pb I ad0 c0 (deep + 1) k) (hBl : deep + 1 < 16 -> ∀ k, k0 <= k -> BlockC base pb I ad0 c0 (deep + 1) k) : BlockC base pb I ad0 c0 deep k0 := by
 intro kd pw n fr A c sz vd w hn h1n hfr hsz h hI hw
 obtain ⟨ws, hd, pl⟩ := pw
 simp only at hn ⊢
 have HN := hid hN
 have HBl := hid hBl
 have HI := hid hI
 clear hN hBl hI
 obtain ⟨W, hW⟩ := xE ((w.alloc (.cells #[.slice A n c, .string hd, .int .i64 pl] 80)).alloc (.cells #[.int .i64 0, .string ⟨#[]⟩, .string ⟨#[]⟩, .slice none 0 0, .slice none 0 0, .slice none 0 0, .int .i64 0, .int .i64 0, .int .i64 0] 52))
 have HS0 : Hid (Blk W w.heap.size 80 #[.slice A n c, .string hd, .int .i64 pl]) := hid (by rw [<- hW]; exact (Blk.new w _ _).alloc _)
 have HR0 : Hid (Blk W (w.heap.size + 1) 52 #[.int .i64 0, .string ⟨#[]⟩, .string ⟨#[]⟩, .slice none 0 0, .slice none 0 0, .slice none 0 0, .int .i64 0, .int .i64 0, .int .i64 0]) := hid (by rw [<- hW]; exact Blk.new_at _ _ (by simp) _ _)
 have hbw : Below w.heap.size w W := by rw [<- hW]; go_grown
 have HbW0 := hid hbw
 obtain ⟨pt, hpt⟩ := xE w.heap.size
 have hsz2 : W.heap.size = pt + 2 := by rw [<- hW, <- hpt]; simp
 have Hsz2 := hid hsz2
 clear hsz2
 rw [hpt] at HS0 HR0
 have hbl := h.lt
 obtain ⟨⟨_, _, c2⟩, _⟩ := blk3_cells HS0.out
 go_enter Tryz.func44, Tryz.ntmps44
 go_upto_region 2 with fail
 clear hW c2
 obtain ⟨w0, hw0⟩ := xE (W.alloc (.cells #[.int .i64 kd, .string ⟨#[]⟩, .string ⟨#[]⟩, .slice none 0 0, .slice none 0 0, .slice none 0 0, .int .i64 pl, .int .i64 0, .int .i64 0] 52))
 have hal : Below W.heap.size W w0 := by rw [<- hw0]; exact alloc_below _ _
 have hbw0 := hbw.trans (hal.mono hbw.size)
 have HS := hid (HS0.out.below hal HS0.out.lt)
 have HR := hid (HR0.out.below hal HR0.out.lt)
 have HX : Hid (Blk w0 (pt + 2) 52 #[.int .i64 kd, .string ⟨#[]⟩, .string ⟨#[]⟩, .slice none 0 0, .slice none 0 0, .slice none 0 0, .int .i64 pl, .int .i64 0, .int .i64 0]) := hid (by rw [<- hw0]; exact Blk.new_at _ _ Hsz2.out _ _)
 have HBS : Hid (∀ q : Bool, q = false -> ∃ row, BSt base pb I ad0 c0 pt k0 sz #[.slice A n c, .string hd, .int .i64 pl] vd w kd pl q k0 sz [] [] [] row w0) := hid (fun q hq => ⟨_, hpt, ⟨none, none, none, 0, 0, 0, rfl, DtV.none_, DtV.none_, DtV.none_⟩, ⟨Nat.zero_le _, (fun _ h => by cases h), Nat.zero_le _, by simp [tnsOk], by simp [tnsOk]⟩, (fun h => by rw [hq] at h; cases h), Nat.le_refl _, Nat.le_refl _, hsz, HX.out, HS.out, ⟨_, rfl, HR.out⟩, h.below hbw0, TF.of_below hbw0⟩)
 have HP := hid (h.below hbw0)
 have HWe := hid hw
 have HC := hid (fun a => countK base pb I ad0 c0 k0 sz vd a w0 HP.out hsz)
 have Hn := hid hn
 rw [hw0]
 have hg2 := Hsz2.out
 rw [hg2]
 clear hw0 hal hbw0 hbw HbW0 HS0 HR0 h hw hn hg2 HX HR HP
 obtain ⟨⟨_, _, c2⟩, _⟩ := blk3_cells HS.out
 clear HS
 go_upto_if 25 with (go_at_call 40; refine (HC.out _).mono ?_; rintro e w1 ⟨b, rfl, hp1, hb1, ht1⟩)
 clear c2 HC
 obtain ⟨row, hBS⟩ := HBS.out false rfl
 clear HBS
 cases b
 ·have HB := hid (hBS.tf_ ht1 hp1 (Nat.le_refl _) (Nat.le_refl _) hsz);clear hBS hp1 ht1 hb1;go_upto_region 3 with fail
  refine wp_region_lit ?_;refine ldI _ HB.out.blkX (by rw [HB.out.len]; exact uNode) ?_;obtain ⟨R, hR, hBR⟩ := HB.out.blkR;refine stI _ hBR (by rw [hR, HB.out.len]) HB.out.one (by rw [HB.out.len]; exact uNode) ?_;obtain ⟨hB2, hR2⟩ := HB.out.putR;obtain ⟨w8, hw8⟩ := xE (World.setCells w1 (pt + 1) 0 row);rw [hw8] at hB2 hR2 ⊢;clear hw8;refine mv (.bool false) ?_;refine xn ?_;refine rc1I (pt + 1) hR2 (by rw [List.size_toArray, hB2.len]; exact uNode) ?_;exact hB2.done false (fun h => by cases h)
 have HB0 : Hid (BSt base pb I ad0 c0 pt k0 sz #[.slice A n c, .string hd, .int .i64 pl] vd w kd pl true k0 (sz + 1) [] [] [] row w1) := hid (by
   have h5 := hBS.tf_ ht1 hp1 (Nat.le_refl _) (Nat.le_succ _) (hb1 rfl);exact ⟨h5.pts, h5.vals, h5.ok, (fun _ => by simp [Tn.num, tnsNum]), h5.k_le, h5.sz_le, h5.sz_max, h5.blkX, h5.blkP, h5.blkR, h5.pk, h5.tf⟩)
 clear hBS hp1 ht1 hb1
 go_upto_region 5 with fail
 go_cut [13] from 17 (fun ok wx => ∃ (b : Bool) (cs : List Ca) (row : List Value), ok = .bool b /\ BSt base pb I ad0 c0 pt k0 sz #[.slice A n c, .string hd, .int .i64 pl] vd w kd pl true k0 (sz + 1) cs [] [] row wx)
 case first => as_aux_lemma =>
  have HPp := hid (pipeK base pb I ad0 c0 k0 (sz + 1) vd ⟨ws, hd, pl⟩ n Hn.out A c fr hfr w1 HB0.out.pk (HWe.out.tf HB0.out.tf XD_XQ) h1n);obtain ⟨⟨c0_, c1_, c2_⟩, _⟩ := blk3_cells HB0.out.blkP;have hlt := HB0.out.lt;go_wp2_with (go_at_call 58; refine HPp.out.mono ?_; rintro e w3 ⟨v, cs, b, rfl, hd3, hcs, hcl, hp3, ht3⟩; obtain ⟨Av, cv, rfl, _⟩ := DtV.slice hd3 (n := cs.length) (by simp); have HB1 := hid (HB0.out.tf_ ht3 hp3 (Nat.le_refl _) (Nat.le_refl _) HB0.out.sz_max); have HD3 := hid (dt_up hd3 hlt); have Hcs := hid hcs; clear c0_ c1_ c2_ hd3 hcs hp3 ht3; obtain ⟨⟨_, d3⟩, g3⟩ := HB1.out.cell 3 (by decide))
  go_meet;obtain ⟨row', h'⟩ := HB1.out.pipe HD3.out Hcs.out hcl;exact ⟨b, cs, row', rfl, h'⟩
 obtain ⟨b, cs, row, rfl, hB⟩ := hcut
 obtain ⟨w2, rfl⟩ := xS wc
 have HB := hid hB
 clear hB HB0
 go_upto_if 36 with fail
 cases b
 ·skip;go_upto_region 7 with fail
  refine wp_region_lit ?_;refine ldI _ HB.out.blkX (by rw [HB.out.len]; exact uNode) ?_;obtain ⟨R, hR, hBR⟩ := HB.out.blkR;refine stI _ hBR (by rw [hR, HB.out.len]) HB.out.one (by rw [HB.out.len]; exact uNode) ?_;obtain ⟨hB2, hR2⟩ := HB.out.putR;obtain ⟨w8, hw8⟩ := xE (World.setCells w2 (pt + 1) 0 row);rw [hw8] at hB2 hR2 ⊢;clear hw8;refine mv (.bool false) ?_;refine xn ?_;refine rc1I (pt + 1) hR2 (by rw [List.size_toArray, hB2.len]; exact uNode) ?_;exact hB2.done false (fun h => by cases h)
 by_cases hd16 : 16 <= deep
 ·have hd16i : (deep : Int) ≥ 16 := by omega
  go_upto_region 9 with fail
  have HF := hid (fun b Wx hp => failK base pb I ad0 c0 k0 (sz + 1) vd pl b Wx hp);have hl9 := HB.out.len;refine wp_region_held_drew (S := fun wy => BSt base pb I ad0 c0 pt k0 sz #[.slice A n c, .string hd, .int .i64 pl] vd w kd pl true k0 (sz + 1) cs [] [] row wy /\ Blk wy pt 80 #[.slice A n c, .string hd, .int .i64 pl]) (by kernel_rfl) ⟨HB.out.drew, HB.out.blkP.drew⟩ (fun hHeld => ?_);refine tq 0 40 _ rfl (ylI _ (fun wy h => h.1.blkX) (by rw [hl9]; exact uNode)) hHeld ?_;refine tk 1 41 (.pointer (some ⟨pb, 0, none⟩)) rfl hHeld ?_;refine tk 2 42 (.pointer (some ⟨pt, 2, none⟩)) rfl hHeld ?_;refine tq 3 43 (.int .i64 pl) rfl (yc pt 2 fun _ h => (blk3_cells h.2).1.2.2) hHeld ?_;refine wpAnyH_ready (rs := [4]) (by kernel_rfl) (by simp) ?_;refine callH 4 (some 44) rfl rfl (by rfl) (args := #[.pointer (some ⟨pb, 0, none⟩), .int .i64 pl, .int .i64 42]) (by go_simp) (HF.out _ _ hHeld.1.pk) (fun e w3 hR => ?_) AllReadyH.nil;obtain ⟨rfl, hp3, ht3⟩ := hR;have hHeld3 := And.intro (hHeld.1.tf_ ht3 hp3 (Nat.le_refl _) (Nat.le_refl _) hHeld.1.sz_max) (hHeld.2.tf ht3 rfl);refine ⟨_, rfl, hHeld3, ?_⟩;clear hHeld;simp only [Act.put, aQ, aZ, aC];have hHeld := hHeld3;refine wpAnyH_ready (rs := [5]) (by kernel_rfl) (by simp) ?_;obtain ⟨R, hR, hBR⟩ := hHeld.1.blkR;refine storeH 5 rfl rfl (by rfl) _ _ rfl rfl rfl hBR (by rw [hR, hl9]) hHeld.1.one (by rw [hl9]; exact uNode) ?_ AllReadyH.nil;have hHeld4 := And.intro hHeld.1.putR.1 (hHeld.2.farC (g' := pt + 1) (by omega) 0 row);refine ⟨hHeld4, ?_⟩;refine tk 6 11 (.bool false) rfl hHeld4 ?_;refine wpAnyH_done (by kernel_rfl) ?_ _;obtain ⟨w8, hw8⟩ := xE (World.setCells w3 (pt + 1) 0 row);have hR2 := hHeld.1.putR.2;rw [hw8] at hHeld4 hR2 ⊢;clear hHeld hHeld3 hR hBR hw8;refine xr (ops := #[]) ?_;refine rc1I (pt + 1) hR2 (by rw [List.size_toArray, hHeld4.1.len]; exact uNode) ?_;exact hHeld4.1.done false (fun h => by cases h)
 have hd16i : ¬ ((deep : Int) ≥ 16) := by omega
 have hdi : (deep : Int) <= 15 := by omega
 have hd0 : (0 : Int) <= (deep : Int) := by omega
 have hde : ((deep + 1 : Nat) : Int) = (deep : Int) + 1 := by omega
 go_upto_region 11 with fail
 obtain ⟨w3, hw3⟩ := xE (w2.alloc (.cells #[.slice none 0 0, .string ⟨#[]⟩, .int .i64 0] 80))
 have hal : Below w2.heap.size w2 w3 := by rw [<- hw3]; exact alloc_below _ _
 have HB3 := hid (HB.out.below hal)
 have HE3 : Hid (Blk w3 w2.heap.size 80 #[.slice none 0 0, .string ⟨#[]⟩, .int .i64 0]) := hid (by rw [<- hw3]; exact Blk.new _ _ _)
 have hgt : pt + 2 < w2.heap.size := HB.out.lt
 rw [hw3]
 obtain ⟨ge, hge⟩ := xE w2.heap.size
 rw [hge] at HE3 hgt ⊢
 clear hw3 hal hge HB
 go_cut [13] from 17 (fun ok wx => ∃ (b : Bool) (bs : List Tn) (pw2 : Pw) (B : Option Addr) (c2 k sz2 : Nat) (row : List Value), ok = .bool b /\ BSt base pb I ad0 c0 pt k0 sz #[.slice A n c, .string hd, .int .i64 pl] vd w kd pl b k sz2 cs bs [] row wx /\ Blk wx ge 80 #[.slice B pw2.ws.length c2, .string pw2.hd, .int .i64 pw2.pl] /\ (b = true -> PwAt (pt + 3) pw2 B c2 wx))
 case first => as_aux_lemma =>
  have HNc := hid (HN.out (by omega) k0 HB3.out.k_le (sz + 1) vd 0 w3 HB3.out.sz_max HB3.out.pk (HI.out.tf HB3.out.tf XD_XQ) (fun h => absurd h (Nat.succ_ne_zero _)) (Nat.zero_le _));rw [hde] at HNc;go_wp2_with (go_at_call 24; refine HNc.out.mono ?_; rintro e w4 ⟨A1, c1, ts, B1, c3, pw3, b, k', sz', vd', rfl, hd4, hok4, hb4, hk4, hs4, hm4, hp4, _, hq, _⟩; obtain ⟨rfl, ht⟩ := hq (Nat.succ_pos _); have HB4 := hid (HB3.out.tf_ ht hp4 hk4 hs4 hm4); have HE4 := hid (HE3.out.tf ht rfl); have HT := hid ht; have HD4 := hid hd4; have Hok4 := hid hok4; have Hb4 := hid hb4; have HP4 := hid hp4; clear hd4 hok4 hb4 hp4 ht; obtain ⟨⟨_, d4⟩, g4⟩ := HB4.out.cell 4 (by decide); obtain ⟨⟨e0, e1, e2⟩, f0, f1, f2⟩ := blk3_cells HE4.out)
  go_meet;obtain ⟨row', h5⟩ := HB3.out.body HT.out HP4.out hk4 hs4 hm4 HD4.out Hok4.out (q' := b) (fun _ => rfl) (fun hb' => (Hb4.out hb').1);have HE5 := HE4.out.far (p := ⟨pt + 2, 4, none⟩) (by show ge ≠ pt + 2; omega) (.slice A1 ts.length c1);exact ⟨b, ts, pw3, B1, c3, k', sz', row', rfl, h5.end3 HE5 hgt, blk3_put HE5, fun hb' => ⟨((RowsN.far ((Hb4.out hb').2.1.up (Nat.le_refl _) HB3.out.lt) (p := ⟨pt + 2, 4, none⟩) (Nat.zero_le _) (by show pt + 2 < pt + 3; omega) _).piece HE5), (Hb4.out hb').2.2⟩⟩
 obtain ⟨b, bs, pw2, B, c2, k, sz2, row, rfl, hB, hE, hPw⟩ := hcut
 obtain ⟨w5, rfl⟩ := xS wc
 have HB := hid hB
 have HE := hid hE
 have HPw := hid hPw
 clear hB hE hPw HB3 HE3
 go_upto_if 55 with fail
 cases b
 ·skip;go_upto_region 13 with fail
  refine wp_region_lit ?_;refine ldI _ HB.out.blkX (by rw [HB.out.len]; exact uNode) ?_;obtain ⟨R, hR, hBR⟩ := HB.out.blkR;refine stI _ hBR (by rw [hR, HB.out.len]) HB.out.one (by rw [HB.out.len]; exact uNode) ?_;obtain ⟨hB2, hR2⟩ := HB.out.putR;obtain ⟨w8, hw8⟩ := xE (World.setCells w5 (pt + 1) 0 row);rw [hw8] at hB2 hR2 ⊢;clear hw8;refine mv (.bool false) ?_;refine xn ?_;refine rc1I (pt + 1) hR2 (by rw [List.size_toArray, hB2.len]; exact uNode) ?_;exact hB2.done false (fun h => by cases h)
 obtain ⟨ws2, hd2, pl2⟩ := pw2
 simp only at HE
 have HPw2 := hid (HPw.out rfl)
 obtain ⟨n2, hn2⟩ := xE ws2.length
 have Hn2 := hid hn2
 rw [hn2] at HE
 clear hn2 HPw
 obtain ⟨⟨e0, e1, e2⟩, f0, f1, f2⟩ := blk3_cells HE.out
 clear e0 e2 f0 f1 f2
 obtain ⟨qe, hqe⟩ := xE (hd2.toList == [101, 108, 115, 101])
 go_upto_if 59 with fail
 go_cut [] from 17 (fun wx => ∃ (es : List Tn) (B : Option Addr) (c2 n2 : Nat) (hd2 : ByteArray) (pl2 : Int) (k sz2 : Nat) (row : List Value), BSt base pb I ad0 c0 pt k0 sz #[.slice A n c, .string hd, .int .i64 pl] vd w kd pl true k sz2 cs bs es row wx /\ Blk wx ge 80 #[.slice B n2 c2, .string hd2, .int .i64 pl2])
 case first =>
  cases qe
  ·go_wp2_with fail
   go_meet;exact ⟨[], B, c2, n2, hd2, pl2, k, sz2, row, HB.out, HE.out⟩
  by_cases hn1 : 1 < n2
  ·have hn1i : (1 : Int) < (n2 : Int) := by omega
   have hw2l : 1 < ws2.length := by have := Hn2.out; omega
   obtain ⟨ad, rfl, _, _, hrow⟩ := RowsV.get HPw2.out.1 (k := 1) hw2l;obtain ⟨p1, hp1⟩ := xE ws2[1];rw [show ((Pw.mk ws2 hd2 pl2).ws[1]'hw2l) = ws2[1] from rfl, hp1] at hrow;obtain ⟨k1, x1, pl1⟩ := p1;obtain ⟨j0, j1, _⟩ := It.at_ hrow;clear hrow hp1;have e0 := (blk3_cells HE.out).1.1;go_upto_region 16 with fail
   go_cut [77] from 17 (fun cc wx => ∃ b : Bool, cc = .bool b /\ wx = w5)
   case first => as_aux_lemma =>
    have i0 : w5.cell? ⟨ad.block, ad.off + 3, none⟩ = some (.int .i64 k1) := by simpa [Addr.add, Nat.add_assoc] using j0
    have i1 : w5.cell? ⟨ad.block, ad.off + 3 + 1, none⟩ = some (.string x1) := by simpa [Addr.add, Nat.add_assoc] using j1
    have i2 : w5.cell? ⟨ad.block, ad.off + 4, none⟩ = some (.string x1) := by simpa [Addr.add, Nat.add_assoc] using j1
    simp only [Nat.one_mul] at j0 j1;obtain ⟨q6, hq6⟩ := xE (k1 == 1);obtain ⟨q6', hq6'⟩ := xE (k1 != 1);obtain ⟨q7, hq7⟩ := xE (x1.toList == [105, 102]);obtain ⟨q7', hq7'⟩ := xE (x1.toList != [105, 102]);cases q6'
    all_goals (
     go_wp2_with fail
     go_meet;exact ⟨_, rfl, rfl⟩)
   obtain ⟨bt, rfl, hwc⟩ := hcut;obtain rfl := hwc;clear j0 j1 e0;cases bt
   ·by_cases hd15 : 16 <= deep + 1
    ·have hd15i : (deep : Int) + 1 ≥ 16 := by omega
     go_upto_region 19 with fail
     have HF := hid (fun b Wx hp => failK base pb I ad0 c0 k sz2 vd pl2 b Wx hp);have hl9 := HB.out.len;refine wp_region_held_drew (S := fun wy => BSt base pb I ad0 c0 pt k0 sz #[.slice A n c, .string hd, .int .i64 pl] vd w kd pl true k sz2 cs bs [] row wy /\ Blk wy ge 80 #[.slice (some ad) n2 c2, .string hd2, .int .i64 pl2]) (by kernel_rfl) ⟨HB.out.drew, HE.out.drew⟩ (fun hHeld => ?_);refine tq 0 86 _ rfl (ylI _ (fun wy h => h.1.blkX) (by rw [hl9]; exact uNode)) hHeld ?_;refine tk 1 87 (.pointer (some ⟨pb, 0, none⟩)) rfl hHeld ?_;refine tk 2 88 (.pointer (some ⟨ge, 2, none⟩)) rfl hHeld ?_;refine tq 3 89 (.int .i64 pl2) rfl (yc ge 2 fun _ h => (blk3_cells h.2).1.2.2) hHeld ?_;refine wpAnyH_ready (rs := [4]) (by kernel_rfl) (by simp) ?_;refine callH 4 (some 90) rfl rfl (by rfl) (args := #[.pointer (some ⟨pb, 0, none⟩), .int .i64 pl2, .int .i64 42]) (by go_simp) (HF.out _ _ hHeld.1.pk) (fun e w3 hR => ?_) AllReadyH.nil;obtain ⟨rfl, hp3, ht3⟩ := hR;have hHeld3 := And.intro (hHeld.1.tf_ ht3 hp3 (Nat.le_refl _) (Nat.le_refl _) hHeld.1.sz_max) (hHeld.2.tf ht3 rfl);refine ⟨_, rfl, hHeld3, ?_⟩;clear hHeld;simp only [Act.put, aQ, aZ, aC];have hHeld := hHeld3;refine wpAnyH_ready (rs := [5]) (by kernel_rfl) (by simp) ?_;obtain ⟨R, hR, hBR⟩ := hHeld.1.blkR;refine storeH 5 rfl rfl (by rfl) _ _ rfl rfl rfl hBR (by rw [hR, hl9]) hHeld.1.one (by rw [hl9]; exact uNode) ?_ AllReadyH.nil;have hHeld4 := And.intro hHeld.1.putR.1 (hHeld.2.farC (g' := pt + 1) (by omega) 0 row);refine ⟨hHeld4, ?_⟩;refine tk 6 11 (.bool false) rfl hHeld4 ?_;refine wpAnyH_done (by kernel_rfl) ?_ _;obtain ⟨w8, hw8⟩ := xE (World.setCells w3 (pt + 1) 0 row);have hR2 := hHeld.1.putR.2;rw [hw8] at hHeld4 hR2 ⊢;clear hHeld hHeld3 hR hBR hw8;refine xr (ops := #[]) ?_;refine rc1I (pt + 1) hR2 (by rw [List.size_toArray, hHeld4.1.len]; exact uNode) ?_;exact hHeld4.1.done false (fun h => by cases h)
    have hd15i : ¬ ((deep : Int) + 1 ≥ 16) := by omega
    have HBc := hid (HBl.out (by omega) k HB.out.k_le 3 ⟨ws2, hd2, pl2⟩ n2 2 (some ad) c2 sz2 vd wc Hn2.out (by omega) (by omega) HB.out.sz_max HB.out.pk (HI.out.tf HB.out.tf XD_XQ) ((HPw2.out.up (by have := hbl; have := HB.out.pts; omega))));rw [hde] at HBc;obtain ⟨⟨e0, e1', e2⟩, _⟩ := blk3_cells HE.out;go_upto_region 21 with (go_at_call 44; refine HBc.out.mono ?_; rintro e w6 ⟨kd5, Ap, Ab, Ae, cp, cb, ce, cs5, bs5, es5, pl5, b5, k5, sz5, rfl, hp5, hb5, he5, hok5, hn5, hk5, hs5, hm5, hpk5, ht5⟩)
    clear e0 e1' e2;have hw5 := HB.out.lt;have hs6 := ht5.size;obtain ⟨w7, hw7⟩ := xE (w6.alloc (.cells #[.int .i64 kd5, .string ⟨#[]⟩, .string ⟨#[]⟩, .slice Ap cs5.length cp, .slice Ab bs5.length cb, .slice Ae es5.length ce, .int .i64 pl5, .int .i64 0, .int .i64 0] 52));have hal : Below w6.heap.size w6 w7 := by rw [<- hw7]; exact alloc_below _ _
    have HX7 : Hid (Blk w7 w6.heap.size 52 #[.int .i64 kd5, .string ⟨#[]⟩, .string ⟨#[]⟩, .slice Ap cs5.length cp, .slice Ab bs5.length cb, .slice Ae es5.length ce, .int .i64 pl5, .int .i64 0, .int .i64 0]) := hid (by rw [<- hw7]; exact Blk.new _ _ _);rw [hw7];clear hw7;obtain ⟨gx, hgx⟩ := xE w6.heap.size;rw [hgx] at HX7 hal hs6 ⊢;have HT7 := hid (ht5.trans (TF.of_below (by rw [hgx]; exact hal)));have HC7 := hid (node_cells (kd := kd5) (x := ⟨#[]⟩) (nm := ⟨#[]⟩) (a := pl5) (s := 0) (u := 0) (hp5.below (by rw [hgx]; exact hal)) (hb5.below (by rw [hgx]; exact hal)) (he5.below (by rw [hgx]; exact hal)));have HPk7 := hid (hpk5.below (by rw [hgx]; exact hal));have Hok5 := hid hok5;have Hn5 := hid hn5;have hs7 := HT7.out.size;have HB7 := hid (HB.out.tf_ HT7.out HPk7.out hk5 hs5 hm5);clear hp5 hb5 he5 hpk5 ht5 hok5 hn5 hal hgx;refine wp_region_lit ?_;refine ld _ HX7.out ?_;obtain ⟨⟨_, d5⟩, g5⟩ := HB7.out.cell 5 (by decide);have hlt7 : pt + 2 < w7.heap.size := HB7.out.lt;go_upto_region 22 with fail
    obtain ⟨w8, hw8⟩ := xE ((w7.setCell ⟨pt + 2, 5, none⟩ (.slice (some ⟨w7.heap.size, 0, none⟩) 1 1)).alloc (.cells #[.int .i64 kd5, .string ⟨#[]⟩, .string ⟨#[]⟩, .slice Ap cs5.length cp, .slice Ab bs5.length cb, .slice Ae es5.length ce, .int .i64 pl5, .int .i64 0, .int .i64 0] 52));obtain ⟨wa, hwa⟩ := xE (w7.alloc (.cells #[.int .i64 kd5, .string ⟨#[]⟩, .string ⟨#[]⟩, .slice Ap cs5.length cp, .slice Ab bs5.length cb, .slice Ae es5.length ce, .int .i64 pl5, .int .i64 0, .int .i64 0] 52));have hal8 : Below w7.heap.size w7 wa := by rw [<- hwa]; exact alloc_below _ _
    have HX8 : Hid (Blk wa w7.heap.size 52 [.int .i64 kd5, .string ⟨#[]⟩, .string ⟨#[]⟩, .slice Ap cs5.length cp, .slice Ab bs5.length cb, .slice Ae es5.length ce, .int .i64 pl5, .int .i64 0, .int .i64 0].toArray) := hid (by rw [<- hwa]; exact Blk.new _ _ _);obtain ⟨row9, h9⟩ := HB.out.els (ts := [Tn.mk kd5 ⟨#[]⟩ ⟨#[]⟩ cs5 bs5 es5 pl5 0 0]) (A := some ⟨w7.heap.size, 0, none⟩) (c := 1) (q' := b5) (HT7.out.trans (TF.of_below hal8)) (HPk7.out.below hal8) hk5 hs5 hm5 (DtN.one_row HX8.out rfl hs7 (CellsN.below HC7.out hal8) (by rw [Tn.row]; rfl)) ⟨Hok5.out, by simp [tnsOk]⟩ (fun _ => rfl) (fun h => by have := Hn5.out h; simpa [tnsNum] using this);have hcomm : wa.setCell ⟨pt + 2, 5, none⟩ (.slice (some ⟨w7.heap.size, 0, none⟩) 1 1) = w8 := by rw [<- hw8, <- hwa]; exact World.setCell_alloc_past (hn := hlt7) ..
    rw [show (wa.setCell ⟨pt + 2, 5, none⟩ (.slice (some ⟨w7.heap.size, 0, none⟩) [Tn.mk kd5 ⟨#[]⟩ ⟨#[]⟩ cs5 bs5 es5 pl5 0 0].length 1)) = w8 from hcomm] at h9;have HB9 := hid h9;rw [hw8];clear h9 hw8 hal8 HX8 HX7 HB7 HPk7 HT7 HB d5 g5 hcomm hwa row;obtain ⟨row, rfl⟩ := xS row9;refine wp_region_lit ?_;refine ldI _ HB9.out.blkX (by rw [HB9.out.len]; exact uNode) ?_;refine mv (.bool b5) ?_;obtain ⟨R, hR, hBR⟩ := HB9.out.blkR;refine stI _ hBR (by rw [hR, HB9.out.len]) HB9.out.one (by rw [HB9.out.len]; exact uNode) ?_;obtain ⟨hB2, hR2⟩ := HB9.out.putR;obtain ⟨w8, hw8⟩ := xE (World.setCells w8 (pt + 1) 0 row);rw [hw8] at hB2 hR2 ⊢;clear hw8;refine mv (.bool b5) ?_;refine xn ?_;refine rc1I (pt + 1) hR2 (by rw [List.size_toArray, hB2.len]; exact uNode) ?_;exact hB2.done b5 (fun h => h)
   skip;go_upto_region 17 with fail
   have HF := hid (fun b Wx hp => failK base pb I ad0 c0 k sz2 vd pl2 b Wx hp);have hl9 := HB.out.len;refine wp_region_held_drew (S := fun wy => BSt base pb I ad0 c0 pt k0 sz #[.slice A n c, .string hd, .int .i64 pl] vd w kd pl true k sz2 cs bs [] row wy /\ Blk wy ge 80 #[.slice (some ad) n2 c2, .string hd2, .int .i64 pl2]) (by kernel_rfl) ⟨HB.out.drew, HE.out.drew⟩ (fun hHeld => ?_);refine tq 0 78 _ rfl (ylI _ (fun wy h => h.1.blkX) (by rw [hl9]; exact uNode)) hHeld ?_;refine tk 1 79 (.pointer (some ⟨pb, 0, none⟩)) rfl hHeld ?_;refine tk 2 80 (.pointer (some ⟨ge, 2, none⟩)) rfl hHeld ?_;refine tq 3 81 (.int .i64 pl2) rfl (yc ge 2 fun _ h => (blk3_cells h.2).1.2.2) hHeld ?_;refine wpAnyH_ready (rs := [4]) (by kernel_rfl) (by simp) ?_;refine callH 4 (some 82) rfl rfl (by rfl) (args := #[.pointer (some ⟨pb, 0, none⟩), .int .i64 pl2, .int .i64 33]) (by go_simp) (HF.out _ _ hHeld.1.pk) (fun e w3 hR => ?_) AllReadyH.nil;obtain ⟨rfl, hp3, ht3⟩ := hR;have hHeld3 := And.intro (hHeld.1.tf_ ht3 hp3 (Nat.le_refl _) (Nat.le_refl _) hHeld.1.sz_max) (hHeld.2.tf ht3 rfl);refine ⟨_, rfl, hHeld3, ?_⟩;clear hHeld;simp only [Act.put, aQ, aZ, aC];have hHeld := hHeld3;refine wpAnyH_ready (rs := [5]) (by kernel_rfl) (by simp) ?_;obtain ⟨R, hR, hBR⟩ := hHeld.1.blkR;refine storeH 5 rfl rfl (by rfl) _ _ rfl rfl rfl hBR (by rw [hR, hl9]) hHeld.1.one (by rw [hl9]; exact uNode) ?_ AllReadyH.nil;have hHeld4 := And.intro hHeld.1.putR.1 (hHeld.2.farC (g' := pt + 1) (by omega) 0 row);refine ⟨hHeld4, ?_⟩;refine tk 6 11 (.bool false) rfl hHeld4 ?_;refine wpAnyH_done (by kernel_rfl) ?_ _;obtain ⟨w8, hw8⟩ := xE (World.setCells w3 (pt + 1) 0 row);have hR2 := hHeld.1.putR.2;rw [hw8] at hHeld4 hR2 ⊢;clear hHeld hHeld3 hR hBR hw8;refine xr (ops := #[]) ?_;refine rc1I (pt + 1) hR2 (by rw [List.size_toArray, hHeld4.1.len]; exact uNode) ?_;exact hHeld4.1.done false (fun h => by cases h)
  have hn1i : ¬ ((1 : Int) < (n2 : Int)) := by omega
  have e0 := (blk3_cells HE.out).1.1;go_upto_region 23 with fail
  clear e0 e1;go_cut [13] from 17 (fun ok wx => ∃ (b : Bool) (es : List Tn) (pw2 : Pw) (B : Option Addr) (c2 k sz2 : Nat) (row : List Value), ok = .bool b /\ BSt base pb I ad0 c0 pt k0 sz #[.slice A n c, .string hd, .int .i64 pl] vd w kd pl b k sz2 cs bs es row wx /\ Blk wx ge 80 #[.slice B pw2.ws.length c2, .string pw2.hd, .int .i64 pw2.pl] /\ (b = true -> PwAt (pt + 3) pw2 B c2 wx))
  case first => as_aux_lemma =>
   have HNc := hid (HN.out (by omega) k HB.out.k_le sz2 vd 0 w5 HB.out.sz_max HB.out.pk (HI.out.tf HB.out.tf XD_XQ) (fun h => absurd h (Nat.succ_ne_zero _)) (Nat.zero_le _));rw [hde] at HNc;go_wp2_with (go_at_call 24; refine HNc.out.mono ?_; rintro e w4 ⟨A1, c1, ts, B1, c3, pw3, b, k', sz', vd', rfl, hd4, hok4, hb4, hk4, hs4, hm4, hp4, _, hq, _⟩; obtain ⟨rfl, ht⟩ := hq (Nat.succ_pos _); have HB4 := hid (HB.out.tf_ ht hp4 hk4 hs4 hm4); have HE4 := hid (HE.out.tf ht rfl); have HT := hid ht; have HD4 := hid hd4; have Hok4 := hid hok4; have Hb4 := hid hb4; have HP4 := hid hp4; clear hd4 hok4 hb4 hp4 ht; obtain ⟨⟨_, d4⟩, g4⟩ := HB4.out.cell 5 (by decide); obtain ⟨⟨e0, e1, e2⟩, f0, f1, f2⟩ := blk3_cells HE4.out)
   go_meet;obtain ⟨row', h5⟩ := HB.out.els HT.out HP4.out hk4 hs4 hm4 HD4.out Hok4.out (q' := b) (fun _ => rfl) (fun hb' => (Hb4.out hb').1);have HE5 := HE4.out.far (p := ⟨pt + 2, 5, none⟩) (by show ge ≠ pt + 2; omega) (.slice A1 ts.length c1);exact ⟨b, ts, pw3, B1, c3, k', sz', row', rfl, h5.end3 HE5 hgt, blk3_put HE5, fun hb' => ⟨((RowsN.far ((Hb4.out hb').2.1.up (Nat.le_refl _) HB.out.lt) (p := ⟨pt + 2, 5, none⟩) (Nat.zero_le _) (by show pt + 2 < pt + 3; omega) _).piece HE5), (Hb4.out hb').2.2⟩⟩
  obtain ⟨b, es, pw3, B3, c3, k3, sz3, row3, rfl, hB, hE, _⟩ := hcut;obtain ⟨w6, rfl⟩ := xS wc;have HB3 := hid hB;have HE3 := hid hE;clear hB hE HB HE;obtain ⟨row, rfl⟩ := xS row3;go_upto_if 114 with fail
  cases b
  ·skip;go_upto_region 25 with fail
   refine wp_region_lit ?_;refine ldI _ HB3.out.blkX (by rw [HB3.out.len]; exact uNode) ?_;obtain ⟨R, hR, hBR⟩ := HB3.out.blkR;refine stI _ hBR (by rw [hR, HB3.out.len]) HB3.out.one (by rw [HB3.out.len]; exact uNode) ?_;obtain ⟨hB2, hR2⟩ := HB3.out.putR;obtain ⟨w8, hw8⟩ := xE (World.setCells w6 (pt + 1) 0 row);rw [hw8] at hB2 hR2 ⊢;clear hw8;refine mv (.bool false) ?_;refine xn ?_;refine rc1I (pt + 1) hR2 (by rw [List.size_toArray, hB2.len]; exact uNode) ?_;exact hB2.done false (fun h => by cases h)
  go_wp2_with fail
  go_meet;exact ⟨es, B3, c3, pw3.ws.length, pw3.hd, pw3.pl, k3, sz3, row, HB3.out, HE3.out⟩
 obtain ⟨es, B4, c4, n4, hd4, pl4, k4, sz4, row4, hB, hE⟩ := hcut
 obtain ⟨w7, rfl⟩ := xS wc
 have HB4 := hid hB
 have HE4 := hid hE
 clear hB hE HB HE e1 row
 obtain ⟨row, rfl⟩ := xS row4
 obtain ⟨⟨_, e1, _⟩, _⟩ := blk3_cells HE4.out
 obtain ⟨qe, hqe⟩ := xE (hd4.toList != [101, 110, 100])
 obtain ⟨qf, hqf⟩ := xE (hd4.toList == [101, 110, 100])
 cases qf
 ·skip;go_upto_region 27 with fail
  have HF := hid (fun b Wx hp => failK base pb I ad0 c0 k4 sz4 vd pl4 b Wx hp);have hl9 := HB4.out.len;refine wp_region_held_drew (S := fun wy => BSt base pb I ad0 c0 pt k0 sz #[.slice A n c, .string hd, .int .i64 pl] vd w kd pl true k4 sz4 cs bs es row wy /\ Blk wy ge 80 #[.slice B4 n4 c4, .string hd4, .int .i64 pl4]) (by kernel_rfl) ⟨HB4.out.drew, HE4.out.drew⟩ (fun hHeld => ?_);refine tq 0 119 _ rfl (ylI _ (fun wy h => h.1.blkX) (by rw [hl9]; exact uNode)) hHeld ?_;refine tk 1 120 (.pointer (some ⟨pb, 0, none⟩)) rfl hHeld ?_;refine tk 2 121 (.pointer (some ⟨ge, 2, none⟩)) rfl hHeld ?_;refine tq 3 122 (.int .i64 pl4) rfl (yc ge 2 fun _ h => (blk3_cells h.2).1.2.2) hHeld ?_;refine wpAnyH_ready (rs := [4]) (by kernel_rfl) (by simp) ?_;refine callH 4 (some 123) rfl rfl (by rfl) (args := #[.pointer (some ⟨pb, 0, none⟩), .int .i64 pl4, .int .i64 33]) (by go_simp) (HF.out _ _ hHeld.1.pk) (fun e w3 hR => ?_) AllReadyH.nil;obtain ⟨rfl, hp3, ht3⟩ := hR;have hHeld3 := And.intro (hHeld.1.tf_ ht3 hp3 (Nat.le_refl _) (Nat.le_refl _) hHeld.1.sz_max) (hHeld.2.tf ht3 rfl);refine ⟨_, rfl, hHeld3, ?_⟩;clear hHeld;simp only [Act.put, aQ, aZ, aC];have hHeld := hHeld3;refine wpAnyH_ready (rs := [5]) (by kernel_rfl) (by simp) ?_;obtain ⟨R, hR, hBR⟩ := hHeld.1.blkR;refine storeH 5 rfl rfl (by rfl) _ _ rfl rfl rfl hBR (by rw [hR, hl9]) hHeld.1.one (by rw [hl9]; exact uNode) ?_ AllReadyH.nil;have hHeld4 := And.intro hHeld.1.putR.1 (hHeld.2.farC (g' := pt + 1) (by omega) 0 row);refine ⟨hHeld4, ?_⟩;refine tk 6 11 (.bool false) rfl hHeld4 ?_;refine wpAnyH_done (by kernel_rfl) ?_ _;obtain ⟨w8, hw8⟩ := xE (World.setCells w3 (pt + 1) 0 row);have hR2 := hHeld.1.putR.2;rw [hw8] at hHeld4 hR2 ⊢;clear hHeld hHeld3 hR hBR hw8;refine xr (ops := #[]) ?_;refine rc1I (pt + 1) hR2 (by rw [List.size_toArray, hHeld4.1.len]; exact uNode) ?_;exact hHeld4.1.done false (fun h => by cases h)
 skip
 go_upto_region 28 with fail
 refine wp_region_lit ?_
 refine ldI _ HB4.out.blkX (by rw [HB4.out.len]; exact uNode) ?_
 obtain ⟨R, hR, hBR⟩ := HB4.out.blkR
 refine stI _ hBR (by rw [hR, HB4.out.len]) HB4.out.one (by rw [HB4.out.len]; exact uNode) ?_
 obtain ⟨hB2, hR2⟩ := HB4.out.putR
 obtain ⟨w8, hw8⟩ := xE (World.setCells w7 (pt + 1) 0 row)
 rw [hw8] at hB2 hR2 ⊢
 clear hw8
 refine mv (.bool true) ?_
 refine xn ?_
 refine rc1I (pt + 1) hR2 (by rw [List.size_toArray, hB2.len]; exact uNode) ?_
 exact hB2.done true (fun _ => rfl)
theorem tnsNum_set : ∀ {l : List Tn} {i : Nat} {t t' : Tn}, l[i]? = some t -> t'.num = t.num -> tnsNum (l.set i t') = tnsNum l
 | [], i, t, t', h, _ => by simp at h
 | q :: l, 0, t, t', h, e => by
  obtain rfl : q = t := by simpa using h
  rw [List.set_cons_zero, tnsNum, tnsNum, e]
 | q :: l, i + 1, t, t', h, e => by
  rw [List.set_cons_succ, tnsNum, tnsNum, tnsNum_set (by simpa using h) e]
section
variable {base pb : Nat} {I : List It} {ad0 : Addr} {c0 pt k0 sz0 : Nat} {vd0 : Value} {deep m : Nat} {w : World} {k sz : Nat} {vd : Value} {ts : List Tn} {wx : World}
theorem NdSt.join {ga n c : Nat} (h : NdSt base pb I ad0 c0 pt k0 sz0 vd0 deep m w k sz vd ts (.slice (some ⟨ga, 0, none⟩) n c) wx) {i : Nat} {kk : Int} {x nm : ByteArray} {p : List Ca} {b e : List Tn} {a s u : Int} (hi : ts[i]? = some (.mk kk x nm p b e a s u)) (x' : ByteArray) (hx : x'.size + itT (I.drop k) <= 16384) : NdSt base pb I ad0 c0 pt k0 sz0 vd0 deep m w k sz vd (ts.set i (.mk kk x' nm p b e a s u)) (.slice (some ⟨ga, 0, none⟩) n c) (wx.setCell ⟨ga, i * 9 + 1, none⟩ (.string x')) := by
 have hf := h.fl
 obtain ⟨cs, hcs⟩ := h.own.typed ga rfl
 have hga := (h.own.lt ga rfl).1
 have hpt := hf.pts
 have hmem := List.mem_of_getElem? hi
 have hok := tnsOk_iff.1 h.ok _ hmem
 have hrow : (tnRows ts)[i]? = some (Tn.mk kk x nm p b e a s u).row := by rw [tnRows_map, List.getElem?_map, hi]; rfl
 have ho := h.own.set_ (j := 1) hrow (by decide) (u := .string x') (d := .str x') DtV.str
 have hrows : (tnRows ts).set i ((Tn.mk kk x nm p b e a s u).row.set 1 (.str x')) = tnRows (ts.set i (.mk kk x' nm p b e a s u)) := by
  rw [tnRows_map, tnRows_map, List.map_set]
  congr 1
 rw [hrows] at ho
 obtain ⟨R, hR, hBR⟩ := hf.blkR
 have hne : pt ≠ ga := fun e => by subst e; exact Blk.ne_ hBR hcs (by decide) rfl
 refine ⟨⟨hpt, hf.k_le, hf.sz_le, hf.sz_max, ⟨R, hR, hBR.far (p := ⟨ga, i * 9 + 1, none⟩) hne _⟩, hf.pk.set_ hcs (by decide) _, hf.tf.setCell (p := ⟨ga, i * 9 + 1, none⟩) (.inl (by show w.heap.size <= ga; omega)) _, fun hd => ⟨(hf.dp hd).1, (hf.dp hd).2.setCell (p := ⟨ga, i * 9 + 1, none⟩) (.inl (by show w.heap.size <= ga; omega)) _⟩⟩, ho, tnsOk_iff.2 fun q hq => ?_, fun q hq => ?_, by rw [tnsNum_set hi (by rw [Tn.num, Tn.num])]; exact h.num, fun hd => ?_⟩
 ·rcases List.mem_or_eq_of_mem_set hq with h' | h'
  ·exact tnsOk_iff.1 h.ok q h'
  subst h';exact ⟨by omega, hok.2⟩
 ·rcases List.mem_or_eq_of_mem_set hq with h' | h'
  ·exact h.txt q h'
  subst h'; exact hx
 obtain ⟨ds, xs, h1, h2, h3⟩ := h.df hd
 refine ⟨ds, xs, ⟨own_same h1.1 fun g cur _ hc => Below.heap_setCell wx _ _ g (fun e => by subst e; exact Blk.ne_ hc hcs (by decide) rfl), CellsV.keep (by simp) (fun b hb hl => ?_) _ _ h1.2.1, h1.2.2⟩, h2, h3⟩
 have e1 : (wx.setCell ⟨ga, i * 9 + 1, none⟩ (.string x')).heap[b]? = wx.heap[b]? := Below.heap_setCell wx _ _ b (fun e => hb.2 (by rw [e]; rfl))
 exact ⟨⟨hb.1.keep e1, hb.2⟩, e1⟩
end
theorem wordsK (base pb : Nat) (I : List It) (ad0 : Addr) (c0 k sz : Nat) (vd : Value) (kx : Int) (x : ByteArray) (at_ : Int) (w : World) (hx : x.size <= 1048576) (h : PK base pb I ad0 c0 k sz vd w) : Calls Tryz.prog 41 #[.pointer (some ⟨pb, 0, none⟩), .agg #[.int .i64 kx, .string x, .int .i64 at_]] w (fun e w' => ∃ (pw : Pw) (A : Option Addr) (c : Nat) (b : Bool), e = .returned (.tuple #[.agg #[.slice A pw.ws.length c, .string pw.hd, .int .i64 pw.pl], .bool b]) /\ (b = true -> PwAt w.heap.size pw A c w' /\ 1 <= pw.ws.length) /\ PK base pb I ad0 c0 k sz vd w' /\ TF XQ base w w') := by
 obtain ⟨AL, cL, h1, h3⟩ := h
 refine (words20_any base pb (I.drop k) sz vd AL cL kx x at_ w hx h1).mono ?_
 rintro e w1 ⟨pw, A, c, b, he, hb, hp, ht⟩
 exact ⟨pw, A, c, b, he, hb, ⟨AL, cL, hp, h3⟩, ht⟩
theorem meas {base pb : Nat} {I : List It} {ad0 : Addr} {c0 k sz k' sz' : Nat} {vd vd' : Value} {w w' : World} (h : PK base pb I ad0 c0 k sz vd w) (h' : PK base pb I ad0 c0 k' sz' vd' w') (hk : k < k') (hI : k < I.length) : lenAt w' pb < lenAt w pb := by
 rw [h.lenAt.1, h'.lenAt.1]
 omega
theorem wpl_call {ops : Array Oper} {rest : List Oper} {op : Oper} {a : Act} {w : World} {Q : Exit -> Act -> World -> Prop} {f : FuncId} {args : Array Value} {R : Ending -> World -> Prop} (d : Option Tmp) (hgd : op.guard = none) (hd : op.dst = d) (hrun : (execOp a.eval op).run Tryz.prog w = .ok (.enter f args) w) (hc : Calls Tryz.prog f args w R)
  (k : ∀ e w', R e w' -> ∃ v, e = .returned v /\ wpList Tryz.prog ops Q rest (a.put d v) w') : wpList Tryz.prog ops Q (op :: rest) a w :=
 wpList_plain hgd fun _ hK => by
  unfold Oper.wp;rw [hrun, Oper.upon_enter];refine hc.mono fun e w' hR => ?_
  obtain ⟨v, rfl, hW⟩ := k e w' hR;subst hd;exact hK _ _ hW
theorem len9 {l : List Value} (h : l.length = 9) : ∃ a0 a1 a2 a3 a4 a5 a6 a7 a8, l = [a0, a1, a2, a3, a4, a5, a6, a7, a8] := by
 match l, h with
 | [a0, a1, a2, a3, a4, a5, a6, a7, a8], _ => exact ⟨a0, a1, a2, a3, a4, a5, a6, a7, a8, rfl⟩
theorem row_len (t : Tn) : t.row.length = 9 := by
 cases t
 rw [Tn.row]; rfl
theorem pw_putR {lo g : Nat} {pw : Pw} {A : Option Addr} {c : Nat} {w : World} {cs : Array Value} (h : PwAt lo pw A c w) (hB : Blk w g 80 cs) (o : Nat) (vs : List Value) : PwAt lo pw A c (w.setCells g o vs) := by
 refine ⟨RowsV.keep (Nat.le_of_eq (setCells_size vs o w).symm) (fun b hS hl => ?_) _ _ _ 0 h.1, h.2⟩
 have e : (w.setCells g o vs).heap[b]? = w.heap[b]? := setCells_far vs o w (fun e => by
  subst e;rcases hS with hb | ⟨_, cs, t, fr, e1, e2⟩
  ·omega
  unfold Blk at hB;rw [hB] at e1;injection e1 with e1
  injection e1 with _ e3
  rw [<- e3] at e2; cases e2)
 exact ⟨hS.keep e, e⟩
theorem singleK (base pb : Nat) (I : List It) (ad0 : Addr) (c0 k sz : Nat) (vd : Value) (pw : Pw) (n : Nat) (hn : pw.ws.length = n) (h1n : 1 <= n) (A : Option Addr) (c : Nat) (w : World) (hsz : sz <= 1024) (h : PK base pb I ad0 c0 k sz vd w) (hw : PwAt base pw A c w) : Calls Tryz.prog 45 #[.pointer (some ⟨pb, 0, none⟩), .agg #[.slice A n c, .string pw.hd, .int .i64 pw.pl]] w (fun e w' => ∃ (kk : Int) (nm : ByteArray) (A : Option Addr) (c : Nat) (cs : List Ca) (at_ : Int) (b : Bool) (sz' : Nat), e = .returned (.tuple #[.agg #[.int .i64 kk, .string ⟨#[]⟩, .string nm, .slice A cs.length c, .slice none 0 0, .slice none 0 0, .int .i64 at_, .int .i64 0, .int .i64 0], .bool b]) /\ DtN 0 w.heap.size w' (.slice A cs.length c) (.rows 2 (cs.map Ca.row)) /\ (∀ c ∈ cs, CaOk c) /\ cs.length <= 16 /\ (b = true -> sz' = sz + 1) /\ sz <= sz' /\ sz' <= 1024 /\ PK base pb I ad0 c0 k sz' vd w' /\ TF XQ base w w') := by
 obtain ⟨AL, cL, h1, h3⟩ := h
 refine (single_any base pb (I.drop k) sz vd AL cL pw n hn h1n A c w hsz h1 hw).mono ?_
 rintro e w1 ⟨kk, nm, A, c, cs, at_, b, sz', he, hd, hok, hl, hb, hs, hm, hp, ht⟩
 exact ⟨kk, nm, A, c, cs, at_, b, sz', he, hd, hok, hl, fun h => (hb h).2, hs, hm, ⟨AL, cL, hp, h3⟩, ht⟩
theorem DfE.names {base : Nat} {vd out : Value} {xs : List Value} {w : World} : ∀ {ds : List Df}, DfE base vd ds xs out w -> ∀ j, j < ds.length -> ∃ nm, xs[j * 2]? = some (.string nm) := fun {ds} h j hj => by
 have : ∀ (ds : List Df) (xs : List Value) (S : Nat -> Prop), CellsV w S xs (ds.map Df.row).flatten -> ∀ j, j < ds.length -> ∃ nm, xs[j * 2]? = some (.string nm) := by
  intro ds
  induction ds with
  | nil => intro xs S _ j hj; cases hj
  | cons d r ih =>
   intro xs S hc j hj;rw [List.map_cons, List.flatten_cons] at hc;obtain ⟨v0, y0, rfl, h0, v1, y1, rfl, h1, hr⟩ := hc;cases j with
   | zero => exact ⟨d.nm, by rw [h0.str_is]; rfl⟩
   | succ j =>
    obtain ⟨nm, hn⟩ := ih y1 S hr j (by simpa using hj);exact ⟨nm, by rw [show (j + 1) * 2 = j * 2 + 2 by omega]; simpa using hn⟩
 exact this ds xs _ h.2.1 j hj
theorem nodes_any (base pb : Nat) (I : List It) (ad0 : Addr) (c0 deep k0 : Nat) (hdeep : deep <= 17) (hBl : ∀ k, k0 < k -> BlockC base pb I ad0 c0 deep k) (hDf : deep = 0 -> ∀ k, k0 < k -> DefineC base pb I ad0 c0 k) : NodesC base pb I ad0 c0 deep k0 := by
 intro sz0 vd0 m w hsz h hI hdf hmz
 have HBl := hid hBl
 have HDf := hid hDf
 have HI := hid hI
 obtain ⟨w0, hw0⟩ := xE (w.alloc (.cells #[.slice none 0 0, .string ⟨#[]⟩, .int .i64 0] 80))
 have hbw : Below w.heap.size w w0 := by rw [<- hw0]; exact alloc_below _ _
 have HN0 : Hid (NdSt base pb I ad0 c0 w.heap.size k0 sz0 vd0 deep m w k0 sz0 vd0 [] (.slice none 0 0) w0) := hid (by
  refine ⟨⟨rfl, Nat.le_refl _, Nat.le_refl _, hsz, ⟨_, rfl, by rw [<- hw0]; exact Blk.new _ _ _⟩, h.below hbw, TF.of_below hbw, fun _ => ⟨rfl, TF.of_below hbw⟩⟩, OwnN.nil, by simp [tnsOk], (fun _ h => by cases h), by simp [tnsNum], fun hd => ?_⟩;obtain ⟨ds, h1, h2, h3⟩ := hdf hd;obtain ⟨⟨xs, k1, k2, k3⟩, k4⟩ := h1;rw [List.length_map] at k1;exact ⟨ds, xs, ⟨own_same k1 fun g _ hg _ => hbw.block g (k1.lt g hg).2, CellsV.keep hbw.size (fun b hb hl => ⟨⟨hb.1.keep (hbw.block b hl), fun e => by cases e⟩, hbw.block b hl⟩) _ _ k2, k4⟩, h2, h3⟩)
 have hbl := h.lt
 obtain ⟨pt, hpt⟩ := xE w.heap.size
 rw [hpt] at HN0 hbl
 clear hBl hDf h hI hdf
 have hdpi : (0 : Int) <= (deep : Int) := by omega
 go_enter Tryz.func24, Tryz.ntmps24
 go_wp2_with fail
 (try rw [hpt])
 clear hw0 hbw
 go_loopw [7] (fun out wr => ∃ (k sz : Nat) (vd : Value) (ts : List Tn), NdSt base pb I ad0 c0 pt k0 sz0 vd0 deep m w k sz vd ts out wr) (fun _ wr => lenAt wr pb)
 case atStart => exact ⟨k0, sz0, vd0, [], HN0.out⟩
 obtain ⟨k, sz, vd, ts, hN⟩ := hrel
 obtain ⟨W0, rfl⟩ := xS wr
 have HN := hid hN
 clear hN HN0
 obtain ⟨nt, hnt⟩ := xE ts.length
 obtain ⟨Ao, co, rfl⟩ := HN.out.shape hnt
 have hnz : nt <= 1024 := by rw [<- hnt]; exact HN.out.len
 obtain ⟨AL, cL, hPi, hside, hkI⟩ := HN.out.fl.pk
 obtain ⟨nk, hnk⟩ := xE (I.drop k).length
 obtain ⟨p0, pl0, _, q0, _⟩ := hPi.cells
 rw [hnk] at p0
 have hnk2 : nk = I.length - k := by rw [<- hnk, List.length_drop]
 by_cases hk : k < I.length
 ·obtain ⟨rfl, hcL⟩ := hside hk;have hnk1 : 1 <= nk := by omega
  have hc0 := HI.out.2.1;have hnkc : nk <= cL := by omega
  have hnki : (0 : Int) < (nk : Int) := by omega
  have hnki1 : (1 : Int) <= (nk : Int) := by omega
  have hnkci : (nk : Int) <= (cL : Int) := by omega
  obtain ⟨ad', hAd, _, hail, hrow⟩ := RowsV.get (HI.out.tf HN.out.fl.tf XD_XP).1 hk;cases hAd;obtain ⟨it, hit⟩ := xE I[k];have hitT := itT_drop I k hk;rw [hit] at hrow hitT;obtain ⟨kx, x, px⟩ := it;simp only at hitT;obtain ⟨i0, i1, i2⟩ := It.at_ hrow;simp only at i0 i1 i2;obtain ⟨ai, hai⟩ := xE (ad0.add (k * 3));have hai3 : ai.add 3 = ad0.add ((k + 1) * 3) := by rw [<- hai, Addr.add_add]; congr 1; omega
  rw [hai] at i0 i1 i2 p0;have Hai := hid hai;have hai4 : (⟨ai.block, ai.off + 3, none⟩ : Addr) = ad0.add ((k + 1) * 3) := by rw [<- hai3]; exact (add_one ai 2).symm
  have Hnk2 := hid hnk2;have Hnk := hid hnk;clear hrow hit hnt hnk hnk2 hai;go_upto_region 4 with fail
  obtain ⟨w1, hw1⟩ := xE (W0.alloc (.cells #[.int .i64 kx, .string x, .int .i64 px] 107));have hal : Below W0.heap.size W0 w1 := by rw [<- hw1]; exact alloc_below _ _
  have HX1 : Hid (Blk w1 W0.heap.size 107 #[.int .i64 kx, .string x, .int .i64 px]) := hid (by rw [<- hw1]; exact Blk.new _ _ _);have HN1 := hid (HN.out.below hal);have hP1 := hPi.below hal;have hbl1 := HN.out.fl.pk.lt.2;rw [hw1];obtain ⟨gx, hgx⟩ := xE W0.heap.size;have hgx0 : pt < gx := by rw [<- hgx]; exact HN.out.fl.lt
  rw [hgx] at HX1 hbl1 ⊢;clear hw1 hal i0 i1 i2 p0 q0 pl0;go_cut [] from 13 to 167 (fun wx => NdSt base pb I ad0 c0 pt k0 sz0 vd0 deep m w (k + 1) sz vd ts (.slice Ao nt co) wx /\ Blk wx gx 107 #[.int .i64 kx, .string x, .int .i64 px] /\ TF XQ base w1 wx)
  case first => as_aux_lemma =>
   obtain ⟨p0, _, _, q0, _⟩ := hP1.cells;rw [Hnk.out, Hai.out] at p0;by_cases hc : cL = 1
   ·subst hc;go_wp2_with fail
    go_meet;refine ⟨HN1.out.pop hk (fun h => absurd h (by have := Hnk2.out; omega)) (by have := Hnk2.out; rw [List.length_drop]; omega), HX1.out.far (p := ⟨pb, 0, none⟩) (by show gx ≠ pb; omega) _, ?_⟩;obtain ⟨cs, hB⟩ := hP1.blk;exact TF.refl.setCell (p := ⟨pb, 0, none⟩) (hB.mayT rfl hbl.1) _
   have hci : ¬ ((cL : Int) = 1) := by omega
   go_wp2_with fail
   go_meet;refine ⟨HN1.out.pop (A := some (ad0.add ((k + 1) * 3))) (c := cL - 1) hk (fun h => ⟨rfl, by omega⟩) (by have := Hnk2.out; rw [List.length_drop]; omega), HX1.out.far (p := ⟨pb, 0, none⟩) (by show gx ≠ pb; omega) _, ?_⟩;obtain ⟨cs, hB⟩ := hP1.blk;exact TF.refl.setCell (p := ⟨pb, 0, none⟩) (hB.mayT rfl hbl.1) _
  obtain ⟨hN2, hX2, hT2⟩ := hcut;obtain ⟨w2, rfl⟩ := xS wc;have HN2 := hid hN2;have HX2 := hid hX2;clear hN2 hX2 HN1 HX1 hP1;obtain ⟨⟨x0, x1, x2⟩, _⟩ := blk3_cells HX2.out;have hnti : (nt : Int) <= 1024 := by omega
  have hnt0 : (0 : Int) <= (nt : Int) := by omega
  go_upto_region 6 with fail
  go_cut [9, 50] from 13 to 167 (fun l9 cc wx => l9 = .int .i64 ((nt : Int) - 1) /\ ∃ b : Bool, cc = .bool b /\ (b = true -> 0 < nt /\ kx = 1) /\ wx = w2)
  case first => as_aux_lemma =>
   obtain ⟨q1, hq1⟩ := xE (kx == 1);rcases Nat.eq_zero_or_pos nt with h0 | h0
   ·subst h0;cases q1
    all_goals (
     go_wp2_with fail
     all_goals (
      go_meet;exact ⟨by first | rfl | simp, _, rfl, (fun h => by first | cases h | simp at h), rfl⟩))
   obtain ⟨n', rfl⟩ : ∃ n', nt = n' + 1 := ⟨nt - 1, by omega⟩
   obtain ⟨A', c', hA', hrows⟩ := HN2.out.own.rowsV;have htl : n' < ts.length := by
    have := congrArg (fun v => match v with | Value.slice _ n _ => n | _ => 0) hA';simp only [tnRows_len] at this;omega
   injection hA' with hA1 hA2 hA3
   subst hA1;clear hA2 hA3;rw [tnRows_map] at hrows;obtain ⟨ad, rfl, _, _, hrow⟩ := RowsV.get hrows htl;obtain ⟨t, ht⟩ := xE ts[n'];rw [ht] at hrow;obtain ⟨kk, xx, nm, pp, bb, ee, aa, ss, uu⟩ := t;obtain ⟨_, _, _, _, _, _, t0, -⟩ := Tn.at_ hrow rfl rfl rfl;clear hrow hrows ht htl;have hn1 : ((n' + 1 : Nat) : Int) - 1 = (n' : Int) := by omega
   have hn2 : (n' : Int) < ((n' + 1 : Nat) : Int) := by omega
   have hn3 : (0 : Int) <= (n' : Int) := by omega
   have hn4 : (n' : Int) + 1 - 1 = (n' : Int) := by omega
   cases q1
   all_goals (
    go_wp2_with fail
    all_goals (
     go_meet;exact ⟨by first | rfl | rw [hn1], _, rfl, (fun h => ⟨Nat.succ_pos _, by first | exact beq_iff_eq.1 hq1 | simp at h⟩), rfl⟩))
  obtain ⟨rfl, b, rfl, hb, hwc⟩ := hcut;obtain rfl := hwc;cases b
  ·clear hb;obtain ⟨q1, hq1⟩ := xE (kx == 1);cases q1
   ·skip;have hxT : x.size <= 16384 := by have := HI.out.2.2.1; have := itT_le (I := I) (Nat.zero_le k); simp only [List.drop_zero] at this; omega
    have HW := hid (wordsK base pb I ad0 c0 (k + 1) sz vd kx x px wc (by omega) HN2.out.fl.pk);go_upto_region 13 with (go_at_call 41; refine HW.out.mono ?_; rintro e w3 ⟨pw, B, c2, b, rfl, hb3, hp3, ht3⟩)
    have HN3 := hid (HN2.out.step ht3 hp3 (Nat.le_refl _) (Nat.le_refl _) HN2.out.fl.sz_max);obtain ⟨w4, hw4⟩ := xE (w3.alloc (.cells #[.slice B pw.ws.length c2, .string pw.hd, .int .i64 pw.pl] 80));have hal : Below w3.heap.size w3 w4 := by rw [<- hw4]; exact alloc_below _ _
    have HE4 : Hid (Blk w4 w3.heap.size 80 #[.slice B pw.ws.length c2, .string pw.hd, .int .i64 pw.pl]) := hid (by rw [<- hw4]; exact Blk.new _ _ _);have HN4 := hid (HN3.out.below hal);have Hpw4 : Hid (b = true -> PwAt base pw B c2 w4 /\ PwAt pt pw B c2 w4 /\ 1 <= pw.ws.length) := hid (fun h => by
     obtain ⟨k1, k2⟩ := hb3 h;have hlt := HN2.out.fl.lt;exact ⟨(k1.below hal).up (by omega), (k1.below hal).up (by omega), k2⟩)
    rw [hw4];obtain ⟨gw, hgw⟩ := xE w3.heap.size;have hgwp : pt < gw := by rw [<- hgw]; exact HN3.out.fl.lt
    rw [hgw] at HE4 ⊢;clear hw4 hal hgw hp3 ht3 hb3 HW HN3 x0 x1 x2;obtain ⟨ws, hd, pl⟩ := pw;obtain ⟨n2, hn2⟩ := xE ws.length;have Hn2 := hid hn2;simp only [hn2] at HE4 Hpw4 ⊢;clear hn2;go_upto_if 87 with fail
    cases b
    ·skip;go_upto_region 14 with fail
     refine wp_region_held_drew (S := fun wy => FlSt base pb I ad0 c0 pt k0 sz0 vd0 deep m w _ _ _ wy /\ Blk wy gw 80 #[.slice B n2 c2, .string hd, .int .i64 pl]) (by kernel_rfl) ⟨HN4.out.fl.drew, HE4.out.drew⟩ (fun hHeld => ?_);refine tq 0 88 _ rfl (yl _ (fun wy h => h.2)) hHeld ?_;refine tk 1 4 (.slice none 0 0) rfl hHeld ?_;refine wpAnyH_ready (rs := [2]) (by kernel_rfl) (by simp) ?_;obtain ⟨R, hR, hBR⟩ := hHeld.1.blkR;refine storeH 2 rfl rfl (by rfl) _ _ rfl rfl rfl hBR hR rfl uPiece ?_ AllReadyH.nil;obtain ⟨hF4, hR2⟩ := hHeld.1.putR (row := #[.slice B n2 c2, .string hd, .int .i64 pl].toList) rfl;have hHeld4 := And.intro hF4 (hHeld.2.farC (g' := pt) (by omega) 0 #[.slice B n2 c2, .string hd, .int .i64 pl].toList);refine ⟨hHeld4, ?_⟩;refine tk 3 6 (.bool false) rfl hHeld4 ?_;refine xh ?_;refine rct pt hR2 ?_;exact hF4.fail_ ⟨ws, hd, pl⟩ n2 Hn2.out B c2
    have Hpw := hid ((Hpw4.out rfl).1);have Hpw' := hid ((Hpw4.out rfl).2.1);have hn21 : 1 <= n2 := (Hpw4.out rfl).2.2;clear Hpw4;go_upto_region 16 with fail
    obtain ⟨w5, hw5⟩ := xE (w4.alloc (.cells #[.int .i64 0, .string ⟨#[]⟩, .string ⟨#[]⟩, .slice none 0 0, .slice none 0 0, .slice none 0 0, .int .i64 0, .int .i64 0, .int .i64 0] 52));have hal : Below w4.heap.size w4 w5 := by rw [<- hw5]; exact alloc_below _ _
    have HX5 : Hid (Blk w5 w4.heap.size 52 #[.int .i64 0, .string ⟨#[]⟩, .string ⟨#[]⟩, .slice none 0 0, .slice none 0 0, .slice none 0 0, .int .i64 0, .int .i64 0, .int .i64 0]) := hid (by rw [<- hw5]; exact Blk.new _ _ _);have HN5 := hid (HN4.out.below hal);have HE5 := hid (HE4.out.below hal HE4.out.lt);have HT5 := hid ((TF.of_below hal : TF XQ base w4 w5));have Hpw5 := hid (Hpw.out.below hal);have Hpw5' := hid (Hpw'.out.below hal);have hgn0 : w4.heap.size <= w4.heap.size := Nat.le_refl _;have hgwl := HE4.out.lt;rw [hw5];obtain ⟨gn, hgn⟩ := xE w4.heap.size;have hgn0 : w4.heap.size <= gn := Nat.le_of_eq hgn;rw [hgn] at HX5 hgwl ⊢;clear hw5 hal hgn Hpw Hpw';obtain ⟨_, e1, _⟩ := (blk3_cells HE5.out).1;obtain ⟨qe, hqe⟩ := xE (hd.toList == [101, 110, 100]);obtain ⟨ql, hql⟩ := xE (hd.toList == [101, 108, 115, 101]);obtain ⟨qd, hqd⟩ := xE (hd.toList == [100, 101, 102, 105, 110, 101]);obtain ⟨qi, hqi⟩ := xE (hd.toList == [105, 102]);obtain ⟨qr, hqr⟩ := xE (hd.toList == [114, 97, 110, 103, 101]);obtain ⟨qw, hqw⟩ := xE (hd.toList == [119, 105, 116, 104]);go_upto_block 2 with fail
    go_cut [11] from 13 to 167 (fun ok wx => ∃ (b : Bool) (t : Tn) (row : List Value) (k' sz' : Nat), ok = .bool b /\ Blk wx gn 52 row.toArray /\ row.length = 9 /\ Blk wx gw 80 #[.slice B n2 c2, .string hd, .int .i64 pl] /\ CellsV wx (SD 0 (gn + 1) wx) row t.row /\ t.ok /\ t.txt.size = 0 /\ PK base pb I ad0 c0 k' sz' vd wx /\ k + 1 <= k' /\ sz <= sz' /\ sz' <= 1024 /\ (b = true -> sz + t.num <= sz') /\ TF XQ base w4 wx)
    case first =>
     cases qe
     ·cases ql
      ·cases qd
       ·cases qi
        ·cases qr
         ·cases qw
          ·skip;go_upto_region 17 with fail
           refine wp_region_lit ?_;refine mv (.pointer (some ⟨pb, 0, none⟩)) ?_;refine ld [.slice B n2 c2, .string hd, .int .i64 pl] HE5.out ?_;refine wpl_call (some 94) rfl rfl (by go_simp) (singleK base pb I ad0 c0 (k + 1) sz vd ⟨ws, hd, pl⟩ n2 Hn2.out hn21 B c2 w5 HN5.out.fl.sz_max HN5.out.fl.pk Hpw5.out) ?_;rintro e w6 ⟨kk, nm, Ap, cp, cs5, pl5, b5, sz5, rfl, hp5, hok5, hl5, hn5, hs5, hm5, hpk5, ht5⟩;refine ⟨_, rfl, ?_⟩;simp only [Act.put, aQ, aZ, aC];refine mv (.tuple #[.agg #[.int .i64 kk, .string ⟨#[]⟩, .string nm, .slice Ap cs5.length cp, .slice none 0 0, .slice none 0 0, .int .i64 pl5, .int .i64 0, .int .i64 0], .bool b5]) ?_;refine mv (.agg #[.int .i64 kk, .string ⟨#[]⟩, .string nm, .slice Ap cs5.length cp, .slice none 0 0, .slice none 0 0, .int .i64 pl5, .int .i64 0, .int .i64 0]) ?_;refine mv (.bool b5) ?_;have hX6 := HX5.out.tf ht5 rfl;have hE6 := HE5.out.tf ht5 rfl;have hgl : gn < w5.heap.size := HX5.out.lt;refine st [.int .i64 kk, .string ⟨#[]⟩, .string nm, .slice Ap cs5.length cp, .slice none 0 0, .slice none 0 0, .int .i64 pl5, .int .i64 0, .int .i64 0] hX6 ?_;refine mv (.bool b5) ?_;refine wpList_nil ?_;have hf : ∀ {v d}, DtN 0 w5.heap.size w6 v d -> DtN 0 (gn + 1) (w6.setCells gn 0 [.int .i64 kk, .string ⟨#[]⟩, .string nm, .slice Ap cs5.length cp, .slice none 0 0, .slice none 0 0, .int .i64 pl5, .int .i64 0, .int .i64 0]) v d := fun h => (h.putC (Nat.zero_le _) hgl _ _).up (Nat.le_refl _) hgl
           have hT := (HT5.out.trans ht5).putC (g := gn) hgn0 0 [.int .i64 kk, .string ⟨#[]⟩, .string nm, .slice Ap cs5.length cp, .slice none 0 0, .slice none 0 0, .int .i64 pl5, .int .i64 0, .int .i64 0];have hpk := hpk5.putC hX6 (by decide) 0 [.int .i64 kk, .string ⟨#[]⟩, .string nm, .slice Ap cs5.length cp, .slice none 0 0, .slice none 0 0, .int .i64 pl5, .int .i64 0, .int .i64 0];have hXf := hX6.put (vs := [.int .i64 kk, .string ⟨#[]⟩, .string nm, .slice Ap cs5.length cp, .slice none 0 0, .slice none 0 0, .int .i64 pl5, .int .i64 0, .int .i64 0]) rfl;have hEf := hE6.farC (g' := gn) (by omega) 0 [.int .i64 kk, .string ⟨#[]⟩, .string nm, .slice Ap cs5.length cp, .slice none 0 0, .slice none 0 0, .int .i64 pl5, .int .i64 0, .int .i64 0];(try simp only [Exit.then]);go_wp2_with fail
           go_meet;exact ⟨b5, (Tn.mk kk ⟨#[]⟩ nm cs5 [] [] pl5 0 0), [.int .i64 kk, .string ⟨#[]⟩, .string nm, .slice Ap cs5.length cp, .slice none 0 0, .slice none 0 0, .int .i64 pl5, .int .i64 0, .int .i64 0], k + 1, sz5, rfl, hXf, rfl, hEf, node_cells (hf hp5) DtV.none_ DtV.none_, ⟨Nat.zero_le _, hok5, hl5, by simp [tnsOk], by simp [tnsOk]⟩, rfl, hpk, Nat.le_refl _, hs5, hm5, (fun h => by have := hn5 h; simp only [Tn.num, tnsNum]; omega), hT⟩
          skip;go_upto_region 33 with fail
          refine wp_region_lit ?_;refine mv (.pointer (some ⟨pb, 0, none⟩)) ?_;refine ld [.slice B n2 c2, .string hd, .int .i64 pl] HE5.out ?_;refine mv (.int .i64 (deep : Int)) ?_;refine wpl_call (some 158) rfl rfl (by go_simp) (HBl.out (k + 1) (by have := HN.out.fl.k_le; omega) 5 ⟨ws, hd, pl⟩ n2 1 B c2 sz vd w5 Hn2.out hn21 hn21 HN5.out.fl.sz_max HN5.out.fl.pk (HI.out.tf HN5.out.fl.tf XD_XP) Hpw5.out) ?_;rintro e w6 ⟨kk, Ap, Ab, Ae, cp, cb, ce, cs5, bs5, es5, pl5, b5, k5, sz5, rfl, hp5, hb5, he5, hok5, hn5, hk5, hs5, hm5, hpk5, ht5⟩;refine ⟨_, rfl, ?_⟩;simp only [Act.put, aQ, aZ, aC];refine mv (.tuple #[.agg #[.int .i64 kk, .string ⟨#[]⟩, .string ⟨#[]⟩, .slice Ap cs5.length cp, .slice Ab bs5.length cb, .slice Ae es5.length ce, .int .i64 pl5, .int .i64 0, .int .i64 0], .bool b5]) ?_;refine mv (.agg #[.int .i64 kk, .string ⟨#[]⟩, .string ⟨#[]⟩, .slice Ap cs5.length cp, .slice Ab bs5.length cb, .slice Ae es5.length ce, .int .i64 pl5, .int .i64 0, .int .i64 0]) ?_;refine mv (.bool b5) ?_;have hX6 := HX5.out.tf ht5 rfl;have hE6 := HE5.out.tf ht5 rfl;have hgl : gn < w5.heap.size := HX5.out.lt;refine st [.int .i64 kk, .string ⟨#[]⟩, .string ⟨#[]⟩, .slice Ap cs5.length cp, .slice Ab bs5.length cb, .slice Ae es5.length ce, .int .i64 pl5, .int .i64 0, .int .i64 0] hX6 ?_;refine mv (.bool b5) ?_;refine wpList_nil ?_;have hf : ∀ {v d}, DtN 0 w5.heap.size w6 v d -> DtN 0 (gn + 1) (w6.setCells gn 0 [.int .i64 kk, .string ⟨#[]⟩, .string ⟨#[]⟩, .slice Ap cs5.length cp, .slice Ab bs5.length cb, .slice Ae es5.length ce, .int .i64 pl5, .int .i64 0, .int .i64 0]) v d := fun h => (h.putC (Nat.zero_le _) hgl _ _).up (Nat.le_refl _) hgl
          have hT := (HT5.out.trans ht5).putC (g := gn) hgn0 0 [.int .i64 kk, .string ⟨#[]⟩, .string ⟨#[]⟩, .slice Ap cs5.length cp, .slice Ab bs5.length cb, .slice Ae es5.length ce, .int .i64 pl5, .int .i64 0, .int .i64 0];have hpk := hpk5.putC hX6 (by decide) 0 [.int .i64 kk, .string ⟨#[]⟩, .string ⟨#[]⟩, .slice Ap cs5.length cp, .slice Ab bs5.length cb, .slice Ae es5.length ce, .int .i64 pl5, .int .i64 0, .int .i64 0];have hXf := hX6.put (vs := [.int .i64 kk, .string ⟨#[]⟩, .string ⟨#[]⟩, .slice Ap cs5.length cp, .slice Ab bs5.length cb, .slice Ae es5.length ce, .int .i64 pl5, .int .i64 0, .int .i64 0]) rfl;have hEf := hE6.farC (g' := gn) (by omega) 0 [.int .i64 kk, .string ⟨#[]⟩, .string ⟨#[]⟩, .slice Ap cs5.length cp, .slice Ab bs5.length cb, .slice Ae es5.length ce, .int .i64 pl5, .int .i64 0, .int .i64 0];(try simp only [Exit.then]);go_wp2_with fail
          go_meet;exact ⟨b5, (Tn.mk kk ⟨#[]⟩ ⟨#[]⟩ cs5 bs5 es5 pl5 0 0), [.int .i64 kk, .string ⟨#[]⟩, .string ⟨#[]⟩, .slice Ap cs5.length cp, .slice Ab bs5.length cb, .slice Ae es5.length ce, .int .i64 pl5, .int .i64 0, .int .i64 0], k5, sz5, rfl, hXf, rfl, hEf, node_cells (hf hp5) (hf hb5) (hf he5), hok5, rfl, hpk, hk5, hs5, hm5, hn5, hT⟩
         skip;go_upto_region 31 with fail
         refine wp_region_lit ?_;refine mv (.pointer (some ⟨pb, 0, none⟩)) ?_;refine ld [.slice B n2 c2, .string hd, .int .i64 pl] HE5.out ?_;refine mv (.int .i64 (deep : Int)) ?_;refine wpl_call (some 149) rfl rfl (by go_simp) (HBl.out (k + 1) (by have := HN.out.fl.k_le; omega) 4 ⟨ws, hd, pl⟩ n2 1 B c2 sz vd w5 Hn2.out hn21 hn21 HN5.out.fl.sz_max HN5.out.fl.pk (HI.out.tf HN5.out.fl.tf XD_XP) Hpw5.out) ?_;rintro e w6 ⟨kk, Ap, Ab, Ae, cp, cb, ce, cs5, bs5, es5, pl5, b5, k5, sz5, rfl, hp5, hb5, he5, hok5, hn5, hk5, hs5, hm5, hpk5, ht5⟩;refine ⟨_, rfl, ?_⟩;simp only [Act.put, aQ, aZ, aC];refine mv (.tuple #[.agg #[.int .i64 kk, .string ⟨#[]⟩, .string ⟨#[]⟩, .slice Ap cs5.length cp, .slice Ab bs5.length cb, .slice Ae es5.length ce, .int .i64 pl5, .int .i64 0, .int .i64 0], .bool b5]) ?_;refine mv (.agg #[.int .i64 kk, .string ⟨#[]⟩, .string ⟨#[]⟩, .slice Ap cs5.length cp, .slice Ab bs5.length cb, .slice Ae es5.length ce, .int .i64 pl5, .int .i64 0, .int .i64 0]) ?_;refine mv (.bool b5) ?_;have hX6 := HX5.out.tf ht5 rfl;have hE6 := HE5.out.tf ht5 rfl;have hgl : gn < w5.heap.size := HX5.out.lt;refine st [.int .i64 kk, .string ⟨#[]⟩, .string ⟨#[]⟩, .slice Ap cs5.length cp, .slice Ab bs5.length cb, .slice Ae es5.length ce, .int .i64 pl5, .int .i64 0, .int .i64 0] hX6 ?_;refine mv (.bool b5) ?_;refine wpList_nil ?_;have hf : ∀ {v d}, DtN 0 w5.heap.size w6 v d -> DtN 0 (gn + 1) (w6.setCells gn 0 [.int .i64 kk, .string ⟨#[]⟩, .string ⟨#[]⟩, .slice Ap cs5.length cp, .slice Ab bs5.length cb, .slice Ae es5.length ce, .int .i64 pl5, .int .i64 0, .int .i64 0]) v d := fun h => (h.putC (Nat.zero_le _) hgl _ _).up (Nat.le_refl _) hgl
         have hT := (HT5.out.trans ht5).putC (g := gn) hgn0 0 [.int .i64 kk, .string ⟨#[]⟩, .string ⟨#[]⟩, .slice Ap cs5.length cp, .slice Ab bs5.length cb, .slice Ae es5.length ce, .int .i64 pl5, .int .i64 0, .int .i64 0];have hpk := hpk5.putC hX6 (by decide) 0 [.int .i64 kk, .string ⟨#[]⟩, .string ⟨#[]⟩, .slice Ap cs5.length cp, .slice Ab bs5.length cb, .slice Ae es5.length ce, .int .i64 pl5, .int .i64 0, .int .i64 0];have hXf := hX6.put (vs := [.int .i64 kk, .string ⟨#[]⟩, .string ⟨#[]⟩, .slice Ap cs5.length cp, .slice Ab bs5.length cb, .slice Ae es5.length ce, .int .i64 pl5, .int .i64 0, .int .i64 0]) rfl;have hEf := hE6.farC (g' := gn) (by omega) 0 [.int .i64 kk, .string ⟨#[]⟩, .string ⟨#[]⟩, .slice Ap cs5.length cp, .slice Ab bs5.length cb, .slice Ae es5.length ce, .int .i64 pl5, .int .i64 0, .int .i64 0];(try simp only [Exit.then]);go_wp2_with fail
         go_meet;exact ⟨b5, (Tn.mk kk ⟨#[]⟩ ⟨#[]⟩ cs5 bs5 es5 pl5 0 0), [.int .i64 kk, .string ⟨#[]⟩, .string ⟨#[]⟩, .slice Ap cs5.length cp, .slice Ab bs5.length cb, .slice Ae es5.length ce, .int .i64 pl5, .int .i64 0, .int .i64 0], k5, sz5, rfl, hXf, rfl, hEf, node_cells (hf hp5) (hf hb5) (hf he5), hok5, rfl, hpk, hk5, hs5, hm5, hn5, hT⟩
        skip;go_upto_region 29 with fail
        refine wp_region_lit ?_;refine mv (.pointer (some ⟨pb, 0, none⟩)) ?_;refine ld [.slice B n2 c2, .string hd, .int .i64 pl] HE5.out ?_;refine mv (.int .i64 (deep : Int)) ?_;refine wpl_call (some 140) rfl rfl (by go_simp) (HBl.out (k + 1) (by have := HN.out.fl.k_le; omega) 3 ⟨ws, hd, pl⟩ n2 1 B c2 sz vd w5 Hn2.out hn21 hn21 HN5.out.fl.sz_max HN5.out.fl.pk (HI.out.tf HN5.out.fl.tf XD_XP) Hpw5.out) ?_;rintro e w6 ⟨kk, Ap, Ab, Ae, cp, cb, ce, cs5, bs5, es5, pl5, b5, k5, sz5, rfl, hp5, hb5, he5, hok5, hn5, hk5, hs5, hm5, hpk5, ht5⟩;refine ⟨_, rfl, ?_⟩;simp only [Act.put, aQ, aZ, aC];refine mv (.tuple #[.agg #[.int .i64 kk, .string ⟨#[]⟩, .string ⟨#[]⟩, .slice Ap cs5.length cp, .slice Ab bs5.length cb, .slice Ae es5.length ce, .int .i64 pl5, .int .i64 0, .int .i64 0], .bool b5]) ?_;refine mv (.agg #[.int .i64 kk, .string ⟨#[]⟩, .string ⟨#[]⟩, .slice Ap cs5.length cp, .slice Ab bs5.length cb, .slice Ae es5.length ce, .int .i64 pl5, .int .i64 0, .int .i64 0]) ?_;refine mv (.bool b5) ?_;have hX6 := HX5.out.tf ht5 rfl;have hE6 := HE5.out.tf ht5 rfl;have hgl : gn < w5.heap.size := HX5.out.lt;refine st [.int .i64 kk, .string ⟨#[]⟩, .string ⟨#[]⟩, .slice Ap cs5.length cp, .slice Ab bs5.length cb, .slice Ae es5.length ce, .int .i64 pl5, .int .i64 0, .int .i64 0] hX6 ?_;refine mv (.bool b5) ?_;refine wpList_nil ?_;have hf : ∀ {v d}, DtN 0 w5.heap.size w6 v d -> DtN 0 (gn + 1) (w6.setCells gn 0 [.int .i64 kk, .string ⟨#[]⟩, .string ⟨#[]⟩, .slice Ap cs5.length cp, .slice Ab bs5.length cb, .slice Ae es5.length ce, .int .i64 pl5, .int .i64 0, .int .i64 0]) v d := fun h => (h.putC (Nat.zero_le _) hgl _ _).up (Nat.le_refl _) hgl
        have hT := (HT5.out.trans ht5).putC (g := gn) hgn0 0 [.int .i64 kk, .string ⟨#[]⟩, .string ⟨#[]⟩, .slice Ap cs5.length cp, .slice Ab bs5.length cb, .slice Ae es5.length ce, .int .i64 pl5, .int .i64 0, .int .i64 0];have hpk := hpk5.putC hX6 (by decide) 0 [.int .i64 kk, .string ⟨#[]⟩, .string ⟨#[]⟩, .slice Ap cs5.length cp, .slice Ab bs5.length cb, .slice Ae es5.length ce, .int .i64 pl5, .int .i64 0, .int .i64 0];have hXf := hX6.put (vs := [.int .i64 kk, .string ⟨#[]⟩, .string ⟨#[]⟩, .slice Ap cs5.length cp, .slice Ab bs5.length cb, .slice Ae es5.length ce, .int .i64 pl5, .int .i64 0, .int .i64 0]) rfl;have hEf := hE6.farC (g' := gn) (by omega) 0 [.int .i64 kk, .string ⟨#[]⟩, .string ⟨#[]⟩, .slice Ap cs5.length cp, .slice Ab bs5.length cb, .slice Ae es5.length ce, .int .i64 pl5, .int .i64 0, .int .i64 0];(try simp only [Exit.then]);go_wp2_with fail
        go_meet;exact ⟨b5, (Tn.mk kk ⟨#[]⟩ ⟨#[]⟩ cs5 bs5 es5 pl5 0 0), [.int .i64 kk, .string ⟨#[]⟩, .string ⟨#[]⟩, .slice Ap cs5.length cp, .slice Ab bs5.length cb, .slice Ae es5.length ce, .int .i64 pl5, .int .i64 0, .int .i64 0], k5, sz5, rfl, hXf, rfl, hEf, node_cells (hf hp5) (hf hb5) (hf he5), hok5, rfl, hpk, hk5, hs5, hm5, hn5, hT⟩
       skip;by_cases hd0 : 0 < deep
       ·have hd0i : (0 : Int) < (deep : Int) := by omega
        go_upto_region 25 with fail
        have HFl := hid (fun b Wx hp => failK base pb I ad0 c0 (k + 1) sz vd pl b Wx hp);refine wp_region_held_drew (S := fun wy => FlSt base pb I ad0 c0 pt k0 sz0 vd0 deep m w (k + 1) sz vd wy /\ Blk wy gw 80 #[.slice B n2 c2, .string hd, .int .i64 pl]) (by kernel_rfl) ⟨HN5.out.fl.drew, HE5.out.drew⟩ (fun hHeld => ?_);refine tq 0 124 _ rfl (yl _ (fun wy h => h.2)) hHeld ?_;refine tk 1 125 (.pointer (some ⟨pb, 0, none⟩)) rfl hHeld ?_;refine tk 2 126 (.pointer (some ⟨gw, 2, none⟩)) rfl hHeld ?_;refine tq 3 127 (.int .i64 pl) rfl (yc gw 2 fun _ h => (blk3_cells h.2).1.2.2) hHeld ?_;refine wpAnyH_ready (rs := [4]) (by kernel_rfl) (by simp) ?_;refine callH 4 (some 128) rfl rfl (by rfl) (args := #[.pointer (some ⟨pb, 0, none⟩), .int .i64 pl, .int .i64 33]) (by go_simp) (HFl.out _ _ hHeld.1.pk) (fun e w3 hR => ?_) AllReadyH.nil;obtain ⟨rfl, hp3, ht3⟩ := hR;have hHeld3 := And.intro (hHeld.1.fails ht3 hp3) (hHeld.2.tf ht3 rfl);refine ⟨_, rfl, hHeld3, ?_⟩;clear hHeld;simp only [Act.put, aQ, aZ, aC];refine tk 5 4 (.slice none 0 0) rfl hHeld3 ?_;refine wpAnyH_ready (rs := [6]) (by kernel_rfl) (by simp) ?_;obtain ⟨R, hR, hBR⟩ := hHeld3.1.blkR;refine storeH 6 rfl rfl (by rfl) _ _ rfl rfl rfl hBR hR rfl uPiece ?_ AllReadyH.nil;obtain ⟨hF4, hR2⟩ := hHeld3.1.putR (row := #[.slice B n2 c2, .string hd, .int .i64 pl].toList) rfl;have hHeld4 := And.intro hF4 (hHeld3.2.farC (g' := pt) (by omega) 0 #[.slice B n2 c2, .string hd, .int .i64 pl].toList);refine ⟨hHeld4, ?_⟩;refine tk 7 6 (.bool false) rfl hHeld4 ?_;refine xh ?_;refine rct pt hR2 ?_;exact hF4.fail_ ⟨ws, hd, pl⟩ n2 Hn2.out B c2
       have Hd0 : Hid (deep = 0) := hid (by omega);have hd0i : ¬ ((0 : Int) < (deep : Int)) := by omega
       clear hd0;obtain ⟨ds, xs, hDE, hds, hds0⟩ := HN5.out.df Hd0.out;have hdl : ds.length <= m + k := by
        obtain ⟨ds0, xs0, hD0, h0, h00⟩ := HN.out.df Hd0.out;obtain ⟨_, _, e1, _⟩ := hD0.1.form h00;obtain ⟨_, _, e2, _⟩ := hDE.1.form hds0;rw [e1] at e2;injection e2 with _ e3 _
        omega
       have HDE := hid hDE;have HDc := hid (HDf.out Hd0.out (k + 1) (by have := HN.out.fl.k_le; omega) ⟨ws, hd, pl⟩ n2 B c2 sz vd ds.length xs w5 Hn2.out hn21 HN5.out.fl.sz_max HN5.out.fl.pk (HI.out.tf HN5.out.fl.tf XD_XP) Hpw5.out hDE.1 hDE.names hds0 (by have := HI.out.2.2.2; omega));obtain ⟨⟨e0, _, e2⟩, _⟩ := blk3_cells HE5.out;go_upto_if 132 with (go_at_call 43; refine HDc.out.mono ?_; rintro e w6 ⟨b, k6, sz6, vd6, rfl, hk6, hs6, hm6, hpk6, ht6, hb6⟩)
       have HE6 := hid (HE5.out.tf ht6 rfl);cases b
       ·have HF6 := hid (HN5.out.fl.stepP ht6 hpk6 hk6 hs6 hm6 Hd0.out);clear hb6 e0 e2;go_upto_region 27 with fail
        refine wp_region_held_drew (S := fun wy => FlSt base pb I ad0 c0 pt k0 sz0 vd0 deep m w _ _ _ wy /\ Blk wy gw 80 #[.slice B n2 c2, .string hd, .int .i64 pl]) (by kernel_rfl) ⟨HF6.out.drew, HE6.out.drew⟩ (fun hHeld => ?_);refine tq 0 133 _ rfl (yl _ (fun wy h => h.2)) hHeld ?_;refine tk 1 4 (.slice none 0 0) rfl hHeld ?_;refine wpAnyH_ready (rs := [2]) (by kernel_rfl) (by simp) ?_;obtain ⟨R, hR, hBR⟩ := hHeld.1.blkR;refine storeH 2 rfl rfl (by rfl) _ _ rfl rfl rfl hBR hR rfl uPiece ?_ AllReadyH.nil;obtain ⟨hF4, hR2⟩ := hHeld.1.putR (row := #[.slice B n2 c2, .string hd, .int .i64 pl].toList) rfl;have hHeld4 := And.intro hF4 (hHeld.2.farC (g' := pt) (by omega) 0 #[.slice B n2 c2, .string hd, .int .i64 pl].toList);refine ⟨hHeld4, ?_⟩;refine tk 3 6 (.bool false) rfl hHeld4 ?_;refine xh ?_;refine rct pt hR2 ?_;exact hF4.fail_ ⟨ws, hd, pl⟩ n2 Hn2.out B c2
       obtain ⟨x6, ts6, A6, c6, ho6, hd6, hok6, hn6⟩ := hb6 rfl;have HN6 := HN5.out.stepD ht6 hpk6 hk6 hs6 hm6 Hd0.out (by omega) HDE.out ho6 hd6 hok6 hn6;clear ho6 hd6 hok6 hn6 hb6 e0 e2 HDE hDE;go_wp2_with fail
       go_roundw
       case rel => exact ⟨_, _, _, _, HN6⟩
       exact meas HN.out.fl.pk HN6.fl.pk (by omega) hk
      skip;have hn2 : n2 <= 1048576 := by have := Hpw5.out.2.2.2; have := Hn2.out; simp only at *; omega
      obtain ⟨q0, hq0⟩ := xE ((deep : Int) == 0);obtain ⟨q2, hq2⟩ := xE (decide ((1 : Int) < (n2 : Int)));have e0 := (blk3_cells HE5.out).1.1;go_upto_region 20 with fail
      go_cut [112] from 13 to 167 (fun cc wx => ∃ b : Bool, cc = .bool b /\ wx = w5)
      case first => as_aux_lemma =>
       go_wp2_with fail
       all_goals (
        go_meet;exact ⟨_, rfl, rfl⟩)
      obtain ⟨bt, rfl, hwc⟩ := hcut;obtain rfl := hwc;clear e0 hq0 hq2;cases bt
      ·skip;go_upto_region 22 with fail
       have HS0 := HN5.out;refine wp_region_held_drew (S := fun wy => NdSt base pb I ad0 c0 pt k0 sz0 vd0 deep m w (k + 1) sz vd ts (.slice Ao nt co) wy /\ Blk wy gw 80 #[.slice B n2 c2, .string hd, .int .i64 pl] /\ PwAt pt ⟨ws, hd, pl⟩ B c2 wy) (by kernel_rfl) ⟨HN5.out.drew, HE5.out.drew, Hpw5'.out.below (Below.refl _ _).drew⟩ (fun hHeld => ?_);refine tk 0 118 (.slice Ao nt co) rfl hHeld ?_;refine tq 1 119 _ rfl (yl _ (fun wy h => h.2.1)) hHeld ?_;refine tk 2 4 (.slice Ao nt co) rfl hHeld ?_;refine wpAnyH_ready (rs := [3]) (by kernel_rfl) (by simp) ?_;obtain ⟨R, hR, hBR⟩ := hHeld.1.fl.blkR;refine storeH 3 rfl rfl (by rfl) _ _ rfl rfl rfl hBR hR rfl uPiece ?_ AllReadyH.nil;obtain ⟨hF4, hR2⟩ := hHeld.1.putR (row := #[.slice B n2 c2, .string hd, .int .i64 pl].toList) rfl;have hHeld4 := And.intro hF4 (And.intro (hHeld.2.1.farC (g' := pt) (by omega) 0 #[.slice B n2 c2, .string hd, .int .i64 pl].toList) (pw_putR hHeld.2.2 hBR 0 #[.slice B n2 c2, .string hd, .int .i64 pl].toList));refine ⟨hHeld4, ?_⟩;refine tk 4 6 (.bool true) rfl hHeld4 ?_;refine xh ?_;refine rct pt hR2 ?_;exact hF4.done_ ⟨ws, hd, pl⟩ n2 Hn2.out B c2 hHeld4.2.2
      skip;go_upto_region 21 with fail
      have HFl := hid (fun b Wx hp => failK base pb I ad0 c0 (k + 1) sz vd pl b Wx hp);refine wp_region_held_drew (S := fun wy => FlSt base pb I ad0 c0 pt k0 sz0 vd0 deep m w (k + 1) sz vd wy /\ Blk wy gw 80 #[.slice B n2 c2, .string hd, .int .i64 pl]) (by kernel_rfl) ⟨HN5.out.fl.drew, HE5.out.drew⟩ (fun hHeld => ?_);refine tq 0 113 _ rfl (yl _ (fun wy h => h.2)) hHeld ?_;refine tk 1 114 (.pointer (some ⟨pb, 0, none⟩)) rfl hHeld ?_;refine tk 2 115 (.pointer (some ⟨gw, 2, none⟩)) rfl hHeld ?_;refine tq 3 116 (.int .i64 pl) rfl (yc gw 2 fun _ h => (blk3_cells h.2).1.2.2) hHeld ?_;refine wpAnyH_ready (rs := [4]) (by kernel_rfl) (by simp) ?_;refine callH 4 (some 117) rfl rfl (by rfl) (args := #[.pointer (some ⟨pb, 0, none⟩), .int .i64 pl, .int .i64 33]) (by go_simp) (HFl.out _ _ hHeld.1.pk) (fun e w3 hR => ?_) AllReadyH.nil;obtain ⟨rfl, hp3, ht3⟩ := hR;have hHeld3 := And.intro (hHeld.1.fails ht3 hp3) (hHeld.2.tf ht3 rfl);refine ⟨_, rfl, hHeld3, ?_⟩;clear hHeld;simp only [Act.put, aQ, aZ, aC];refine tk 5 4 (.slice none 0 0) rfl hHeld3 ?_;refine wpAnyH_ready (rs := [6]) (by kernel_rfl) (by simp) ?_;obtain ⟨R, hR, hBR⟩ := hHeld3.1.blkR;refine storeH 6 rfl rfl (by rfl) _ _ rfl rfl rfl hBR hR rfl uPiece ?_ AllReadyH.nil;obtain ⟨hF4, hR2⟩ := hHeld3.1.putR (row := #[.slice B n2 c2, .string hd, .int .i64 pl].toList) rfl;have hHeld4 := And.intro hF4 (hHeld3.2.farC (g' := pt) (by omega) 0 #[.slice B n2 c2, .string hd, .int .i64 pl].toList);refine ⟨hHeld4, ?_⟩;refine tk 7 6 (.bool false) rfl hHeld4 ?_;refine xh ?_;refine rct pt hR2 ?_;exact hF4.fail_ ⟨ws, hd, pl⟩ n2 Hn2.out B c2
     skip;have hn2 : n2 <= 1048576 := by have := Hpw5.out.2.2.2; have := Hn2.out; simp only at *; omega
     obtain ⟨q0, hq0⟩ := xE ((deep : Int) == 0);obtain ⟨q2, hq2⟩ := xE (decide ((1 : Int) < (n2 : Int)));have e0 := (blk3_cells HE5.out).1.1;go_upto_region 20 with fail
     go_cut [112] from 13 to 167 (fun cc wx => ∃ b : Bool, cc = .bool b /\ wx = w5)
     case first => as_aux_lemma =>
      go_wp2_with fail
      all_goals (
       go_meet;exact ⟨_, rfl, rfl⟩)
     obtain ⟨bt, rfl, hwc⟩ := hcut;obtain rfl := hwc;clear e0 hq0 hq2;cases bt
     ·skip;go_upto_region 22 with fail
      have HS0 := HN5.out;refine wp_region_held_drew (S := fun wy => NdSt base pb I ad0 c0 pt k0 sz0 vd0 deep m w (k + 1) sz vd ts (.slice Ao nt co) wy /\ Blk wy gw 80 #[.slice B n2 c2, .string hd, .int .i64 pl] /\ PwAt pt ⟨ws, hd, pl⟩ B c2 wy) (by kernel_rfl) ⟨HN5.out.drew, HE5.out.drew, Hpw5'.out.below (Below.refl _ _).drew⟩ (fun hHeld => ?_);refine tk 0 118 (.slice Ao nt co) rfl hHeld ?_;refine tq 1 119 _ rfl (yl _ (fun wy h => h.2.1)) hHeld ?_;refine tk 2 4 (.slice Ao nt co) rfl hHeld ?_;refine wpAnyH_ready (rs := [3]) (by kernel_rfl) (by simp) ?_;obtain ⟨R, hR, hBR⟩ := hHeld.1.fl.blkR;refine storeH 3 rfl rfl (by rfl) _ _ rfl rfl rfl hBR hR rfl uPiece ?_ AllReadyH.nil;obtain ⟨hF4, hR2⟩ := hHeld.1.putR (row := #[.slice B n2 c2, .string hd, .int .i64 pl].toList) rfl;have hHeld4 := And.intro hF4 (And.intro (hHeld.2.1.farC (g' := pt) (by omega) 0 #[.slice B n2 c2, .string hd, .int .i64 pl].toList) (pw_putR hHeld.2.2 hBR 0 #[.slice B n2 c2, .string hd, .int .i64 pl].toList));refine ⟨hHeld4, ?_⟩;refine tk 4 6 (.bool true) rfl hHeld4 ?_;refine xh ?_;refine rct pt hR2 ?_;exact hF4.done_ ⟨ws, hd, pl⟩ n2 Hn2.out B c2 hHeld4.2.2
     skip;go_upto_region 21 with fail
     have HFl := hid (fun b Wx hp => failK base pb I ad0 c0 (k + 1) sz vd pl b Wx hp);refine wp_region_held_drew (S := fun wy => FlSt base pb I ad0 c0 pt k0 sz0 vd0 deep m w (k + 1) sz vd wy /\ Blk wy gw 80 #[.slice B n2 c2, .string hd, .int .i64 pl]) (by kernel_rfl) ⟨HN5.out.fl.drew, HE5.out.drew⟩ (fun hHeld => ?_);refine tq 0 113 _ rfl (yl _ (fun wy h => h.2)) hHeld ?_;refine tk 1 114 (.pointer (some ⟨pb, 0, none⟩)) rfl hHeld ?_;refine tk 2 115 (.pointer (some ⟨gw, 2, none⟩)) rfl hHeld ?_;refine tq 3 116 (.int .i64 pl) rfl (yc gw 2 fun _ h => (blk3_cells h.2).1.2.2) hHeld ?_;refine wpAnyH_ready (rs := [4]) (by kernel_rfl) (by simp) ?_;refine callH 4 (some 117) rfl rfl (by rfl) (args := #[.pointer (some ⟨pb, 0, none⟩), .int .i64 pl, .int .i64 33]) (by go_simp) (HFl.out _ _ hHeld.1.pk) (fun e w3 hR => ?_) AllReadyH.nil;obtain ⟨rfl, hp3, ht3⟩ := hR;have hHeld3 := And.intro (hHeld.1.fails ht3 hp3) (hHeld.2.tf ht3 rfl);refine ⟨_, rfl, hHeld3, ?_⟩;clear hHeld;simp only [Act.put, aQ, aZ, aC];refine tk 5 4 (.slice none 0 0) rfl hHeld3 ?_;refine wpAnyH_ready (rs := [6]) (by kernel_rfl) (by simp) ?_;obtain ⟨R, hR, hBR⟩ := hHeld3.1.blkR;refine storeH 6 rfl rfl (by rfl) _ _ rfl rfl rfl hBR hR rfl uPiece ?_ AllReadyH.nil;obtain ⟨hF4, hR2⟩ := hHeld3.1.putR (row := #[.slice B n2 c2, .string hd, .int .i64 pl].toList) rfl;have hHeld4 := And.intro hF4 (hHeld3.2.farC (g' := pt) (by omega) 0 #[.slice B n2 c2, .string hd, .int .i64 pl].toList);refine ⟨hHeld4, ?_⟩;refine tk 7 6 (.bool false) rfl hHeld4 ?_;refine xh ?_;refine rct pt hR2 ?_;exact hF4.fail_ ⟨ws, hd, pl⟩ n2 Hn2.out B c2
    obtain ⟨b, t, row, k', sz', rfl, hX, hrl, hE, hC, hok, htx, hP, hk', hs', hm', hn, hT⟩ := hcut;obtain ⟨w6, rfl⟩ := xS wc;obtain ⟨a0, a1, a2, a3, a4, a5, a6, a7, a8, rfl⟩ := len9 hrl;have HN6 := hid (HN4.out.step hT hP hk' hs' hm');have HX6 := hid hX;have HE6 := hid hE;have HC6 := hid hC;have Hlo : Hid (∀ g, (Value.slice Ao nt co).ownBlock = some g -> 0 <= g /\ g < gn + 1) := hid (fun g hg => ⟨Nat.zero_le _, by have := (HN4.out.own.lt g hg).2; omega⟩);have Hnum := hid hn;have HnN := hid HN4.out.num;clear hX hE hC hn HN4 HN5 HX5 HE5 HT5 Hpw5 Hpw5' e1;go_upto_if 162 with fail
    cases b
    ·clear Hnum;go_upto_region 35 with fail
     refine wp_region_held_drew (S := fun wy => FlSt base pb I ad0 c0 pt k0 sz0 vd0 deep m w _ _ _ wy /\ Blk wy gw 80 #[.slice B n2 c2, .string hd, .int .i64 pl]) (by kernel_rfl) ⟨HN6.out.fl.drew, HE6.out.drew⟩ (fun hHeld => ?_);refine tq 0 163 _ rfl (yl _ (fun wy h => h.2)) hHeld ?_;refine tk 1 4 (.slice none 0 0) rfl hHeld ?_;refine wpAnyH_ready (rs := [2]) (by kernel_rfl) (by simp) ?_;obtain ⟨R, hR, hBR⟩ := hHeld.1.blkR;refine storeH 2 rfl rfl (by rfl) _ _ rfl rfl rfl hBR hR rfl uPiece ?_ AllReadyH.nil;obtain ⟨hF4, hR2⟩ := hHeld.1.putR (row := #[.slice B n2 c2, .string hd, .int .i64 pl].toList) rfl;have hHeld4 := And.intro hF4 (hHeld.2.farC (g' := pt) (by omega) 0 #[.slice B n2 c2, .string hd, .int .i64 pl].toList);refine ⟨hHeld4, ?_⟩;refine tk 3 6 (.bool false) rfl hHeld4 ?_;refine xh ?_;refine rct pt hR2 ?_;exact hF4.fail_ ⟨ws, hd, pl⟩ n2 Hn2.out B c2
    go_upto_region 36 with fail
    refine wp_region_lit ?_;refine mv (.slice Ao nt co) ?_;refine ld [a0, a1, a2, a3, a4, a5, a6, a7, a8] HX6.out ?_;have hlt6 := HN6.out.fl.lt;have hgn1 : pt <= gn + 1 := by omega
    go_wp2_with (at_builtin; refine wpl_pushX rfl _ _ rfl Tryz.underlying33 info_Node HN6.out.own rfl (us := [a0, a1, a2, a3, a4, a5, a6, a7, a8]) (r := t.row) (CellsV.fresh HC6.out hgn1 Hlo.out) (row_len t) rfl (by rw [tnRows_len]; have := HN6.out.len; omega) (by omega) ?_; intro v7 w7 hO7 hb7 hv7 hg7; have HO7 := hid hO7; clear hO7)
    have HN7 := HN6.out.snoc (t := t) HO7.out hok (by rw [htx]; have := HI.out.2.2.1; have := itT_le (I := I) (Nat.zero_le k'); simp only [List.drop_zero] at this; omega) (by have := Hnum.out rfl; have := HnN.out; omega) hv7 hg7;go_roundw
    case rel => exact ⟨_, _, _, _, HN7⟩
    exact meas HN.out.fl.pk HN7.fl.pk (by omega) hk
   skip;obtain rfl : kx = 1 := beq_iff_eq.1 hq1;have HC := hid (fun a => countK base pb I ad0 c0 (k + 1) sz vd a wc HN2.out.fl.pk HN2.out.fl.sz_max);go_upto_if 70 with (go_at_call 40; refine (HC.out _).mono ?_; rintro e w3 ⟨b, rfl, hp3, hb3, ht3⟩)
   cases b
   ·have HF3 := hid (HN2.out.fl.step ht3 hp3 (Nat.le_refl _) (Nat.le_refl _) HN2.out.fl.sz_max);clear hp3 ht3 hb3;go_upto_region 10 with fail
    refine wp_region_lit ?_;refine mv (.agg #[.slice none 0 0, .string ⟨#[]⟩, .int .i64 0]) ?_;refine mv (.slice none 0 0) ?_;obtain ⟨R, hR, hBR⟩ := HF3.out.blkR;refine stI [.slice none 0 0, .string ⟨#[]⟩, .int .i64 0] hBR hR rfl uPiece ?_;refine mv (.bool false) ?_;refine wpList_nil ?_;obtain ⟨hF4, hR2⟩ := HF3.out.putR (row := [.slice none 0 0, .string ⟨#[]⟩, .int .i64 0]) rfl;refine xr (ops := #[]) ?_;refine rct pt hR2 ?_;exact hF4.fail_ ⟨[], ⟨#[]⟩, 0⟩ 0 rfl none 0
   have hs3 := hb3 rfl;have hp3' : PK base pb I ad0 c0 (k + 1) (sz + 1) vd w3 := hp3;have HN3 := hid (HN2.out.step ht3 hp3' (Nat.le_refl _) (Nat.le_succ _) hs3);have HX3 := hid (HX2.out.tf ht3 rfl);clear hp3 hp3' ht3 hb3 HC;obtain ⟨⟨y0, y1, y2⟩, _⟩ := blk3_cells HX3.out;have hlt3 := HN3.out.fl.lt;go_wp2_with (at_builtin; refine wpl_pushX rfl _ _ rfl Tryz.underlying33 info_Node HN3.out.own rfl (us := [.int .i64 1, .string x, .string ⟨#[]⟩, .slice none 0 0, .slice none 0 0, .slice none 0 0, .int .i64 px, .int .i64 0, .int .i64 0]) (r := (Tn.mk 1 x ⟨#[]⟩ [] [] [] px 0 0).row) (by rw [Tn.row]; exact ⟨_, _, rfl, DtV.int, _, _, rfl, DtV.str, _, _, rfl, DtV.str, _, _, rfl, DtV.none_, _, _, rfl, DtV.none_, _, _, rfl, DtV.none_, _, _, rfl, DtV.int, _, _, rfl, DtV.int, _, _, rfl, DtV.int, rfl⟩) (by rw [Tn.row]; rfl) rfl (by rw [tnRows_len]; have := HN3.out.len; omega) (by omega) ?_; intro v4 w4 hO4 hb4 hv4 hg4; have HO4 := hid hO4; clear hO4)
   have HN4 := HN3.out.snoc (t := Tn.mk 1 x ⟨#[]⟩ [] [] [] px 0 0) HO4.out ⟨by have := HI.out.2.2.1; have := itT_le (I := I) (Nat.zero_le k); simp only [List.drop_zero] at this; omega, (fun _ h => by cases h), Nat.zero_le _, by simp [tnsOk], by simp [tnsOk]⟩ (by have := HI.out.2.2.1; have := itT_le (I := I) (Nat.zero_le k); simp only [List.drop_zero] at this; simp only [Tn.txt]; omega) (by have := HN2.out.num; simp only [Tn.num, tnsNum]; omega) hv4 hg4;go_roundw
   case rel => exact ⟨_, _, _, _, HN4⟩
   exact meas HN.out.fl.pk HN4.fl.pk (Nat.lt_succ_self _) hk
  skip;obtain ⟨hb0, hk1⟩ := hb rfl;obtain ⟨n', rfl⟩ : ∃ n', nt = n' + 1 := ⟨nt - 1, by omega⟩
  obtain ⟨ga, hga⟩ : ∃ g, Ao = some ⟨g, 0, none⟩ := by
   obtain ⟨xs, h1, _⟩ := HN2.out.own;rcases h1.2 with ⟨h, _⟩ | ⟨g, cap, cur, h, _⟩
   ·injection h with _ h2 _
    omega
   injection h with h1 _ _
   exact ⟨g, h1⟩
  subst hga;obtain ⟨A', c', hA', hrows⟩ := HN2.out.own.rowsV;have htl : n' < ts.length := by
   have := congrArg (fun v => match v with | Value.slice _ n _ => n | _ => 0) hA';simp only [tnRows_len] at this;omega
  injection hA' with hA1 hA2 hA3
  subst hA1;clear hA2 hA3;rw [tnRows_map] at hrows;obtain ⟨ad, hAd, _, _, hrow⟩ := RowsV.get hrows htl;cases hAd;obtain ⟨t, ht⟩ := xE ts[n'];have hti : ts[n']? = some t := by rw [List.getElem?_eq_getElem htl, ht]
  rw [ht] at hrow;obtain ⟨kk, xx, nm, pp, bb, ee, aa, ss, uu⟩ := t;obtain ⟨_, _, _, _, _, _, _, t1, -⟩ := Tn.at_ hrow rfl rfl rfl;have t1' : wc.cell? ⟨ga, n' * 9 + 1, none⟩ = some (.string xx) := by
   rw [Addr.add_lit, Nat.zero_add] at t1; exact t1
  obtain ⟨cs, hcs⟩ := HN2.out.own.typed ga rfl;have f1 : wc.frozen? ⟨ga, n' * 9 + 1, none⟩ = false := Blk.frozen hcs _;have Hti := hid hti;have hx1 := HN2.out.txt _ (List.mem_of_getElem? hti);simp only [Tn.txt] at hx1;have hitI := HN.out.txt _ (List.mem_of_getElem? hti);simp only [Tn.txt] at hitI;clear hrow hrows ht htl t1 hcs hti;have hn1 : ((n' + 1 : Nat) : Int) - 1 = (n' : Int) := by omega
  have hn2 : (n' : Int) < ((n' + 1 : Nat) : Int) := by omega
  have hn3 : (0 : Int) <= (n' : Int) := by omega
  have hn4 : (n' : Int) + 1 - 1 = (n' : Int) := by omega
  rw [hn1];go_upto_region 7 with fail
  go_region
  all_goals (
   have HJ := (HN2.out.join Hti.out (xx ++ x) (by rw [ByteArray.size_append]; omega)).drew;go_wp2_with fail
   go_roundw
   case rel => exact ⟨_, _, _, _, HJ⟩
   exact meas HN.out.fl.pk HJ.fl.pk (Nat.lt_succ_self _) hk)
 skip
 have hnk0 : nk = 0 := by omega
 subst hnk0
 clear hnk2 hnk
 by_cases hd0 : 0 < deep
 ·have hd0i : (0 : Int) < (deep : Int) := by omega
  have HFl := hid (fun a b => failK base pb I ad0 c0 k sz vd a b W0 HN.out.fl.pk);obtain ⟨len, pl0⟩ := pl0;go_upto_region 38 with fail
  refine wp_region_lit ?_;refine mv (.agg #[.slice none 0 0, .string ⟨#[]⟩, .int .i64 0]) ?_;refine mv (.pointer (some ⟨pb, 0, none⟩)) ?_;refine mv (.pointer (some ⟨pb, 0, none⟩)) ?_;refine mv (.pointer (some ⟨pb, 0, none⟩)) ?_;refine mv (.pointer (some ⟨pb, 2, none⟩)) ?_;refine mv (.int .i64 len) ?_;refine wpl_call (some 176) rfl rfl (by go_simp) (HFl.out len 8) ?_;rintro e w3 ⟨rfl, hp3, ht3⟩;refine ⟨_, rfl, ?_⟩;simp only [Act.put, aQ, aZ, aC];have HF3 := hid (HN.out.fl.fails ht3 hp3);refine mv (.slice none 0 0) ?_;obtain ⟨R, hR, hBR⟩ := HF3.out.blkR;refine stI [.slice none 0 0, .string ⟨#[]⟩, .int .i64 0] hBR hR rfl uPiece ?_;refine mv (.bool false) ?_;refine wpList_nil ?_;obtain ⟨hF4, hR2⟩ := HF3.out.putR (row := [.slice none 0 0, .string ⟨#[]⟩, .int .i64 0]) rfl;refine xr (ops := #[]) ?_;refine rct pt hR2 ?_;exact hF4.fail_ ⟨[], ⟨#[]⟩, 0⟩ 0 rfl none 0
 have hd0i : ¬ (0 : Int) < (deep : Int) := by omega
 go_upto_region 39 with fail
 refine wp_region_lit ?_
 refine mv (.slice Ao nt co) ?_
 refine mv (.agg #[.slice none 0 0, .string ⟨#[]⟩, .int .i64 0]) ?_
 refine mv (.slice Ao nt co) ?_
 obtain ⟨R, hR, hBR⟩ := HN.out.fl.blkR
 refine stI [.slice none 0 0, .string ⟨#[]⟩, .int .i64 0] hBR hR rfl uPiece ?_
 refine mv (.bool true) ?_
 refine wpList_nil ?_
 obtain ⟨hF4, hR2⟩ := HN.out.putR (row := [.slice none 0 0, .string ⟨#[]⟩, .int .i64 0]) rfl
 refine xr (ops := #[]) ?_
 refine rct pt hR2 ?_
 exact hF4.done_ ⟨[], ⟨#[]⟩, 0⟩ 0 rfl none 0 ⟨by unfold List.map RowsN RowsV; trivial, (fun _ h => by cases h), Nat.zero_le _, Nat.zero_le _⟩
end Go.Proofs.YtkcnmjdomipbjaaGreat
