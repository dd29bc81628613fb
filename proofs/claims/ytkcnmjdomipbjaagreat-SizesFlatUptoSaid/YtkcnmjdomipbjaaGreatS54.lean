/- SizesFlat: the law returns true for arguments of bulk at most 1048576. -/
import Derived.BigQuiet
import Derived.Deep.Slices
import Derived.Deep.Fields
import Derived.ChangeSame
import Derived.OpenShut
import Derived.Test.YtkcnmjdomipbjaaGreatS53
set_option linter.unusedVariables false
set_option maxHeartbeats 100000000
set_option maxRecDepth 100000
namespace Go.Proofs.YtkcnmjdomipbjaaGreat
open Go.RowKit
def HosAt (w : World) (Ah : Option Addr) (hs : List Ho) : Prop := ∀ j (h : j < hs.length), ∃ g, Ah = some ⟨g, 0, none⟩ /\ g < w.heap.size /\ w.cell? ⟨g, j * 4, none⟩ = some (.int .i64 ((hs[j]).a : Int)) /\ w.cell? ⟨g, j * 4 + 1, none⟩ = some (.int .i64 ((hs[j]).b : Int))
theorem HosAt.below {w w' : World} {Ah : Option Addr} {hs : List Ho} (h : HosAt w Ah hs) (hb : Below w.heap.size w w') : HosAt w' Ah hs := fun j hj => by
 obtain ⟨g, e, h1, h2, h3⟩ := h j hj
 exact ⟨g, e, Nat.lt_of_lt_of_le h1 hb.size, (hb.cell (p := ⟨g, j * 4, none⟩) h1).trans h2, (hb.cell (p := ⟨g, j * 4 + 1, none⟩) h1).trans h3⟩
theorem hos_of {w : World} {base nh ch : Nat} {Ah : Option Addr} {hs : List Ho} (hl : hs.length = nh) (ho : w.ownsRow base 46 4 (.slice Ah nh ch) nh (hs.map Ho.row).flatten) : HosAt w Ah hs := fun j hj => by
 rcases ho.2 with ⟨e, h0⟩ | ⟨g, cap, cur, e, hb, hg, h4⟩
 ·omega
 cases e
 have hlt := (World.ownsRow.lt ho g rfl).2
 have hc : ∀ o, o < 4 -> w.cell? ⟨g, j * 4 + o, none⟩ = ((hs[j]).row)[o]? := fun o ho4 => by
  have hle : (j + 1) * 4 <= nh * 4 := Nat.mul_le_mul_right _ (by omega);rw [ho.cellAt (j * 4 + o) (by omega)];refine flatten_get ho4 (fun q hq => ?_) (by rw [List.getElem?_map, List.getElem?_eq_getElem hj]; rfl);obtain ⟨h, _, rfl⟩ := List.mem_map.1 hq;rfl
 exact ⟨g, rfl, hlt, hc 0 (by decide), hc 1 (by decide)⟩
theorem hoSum_take : ∀ (hs : List Ho) (j : Nat) (h : j < hs.length), hoSum (hs.take (j + 1)) = hoSum (hs.take j) + ((hs[j]).b - (hs[j]).a) := fun hs j h => by
 rw [List.take_succ_eq_append_getElem h, hoSum_snoc]
theorem hoSum_take_le : ∀ (hs : List Ho) (j : Nat), hoSum (hs.take j) <= hoSum hs
 | [], j => by simp [hoSum]
 | h :: r, 0 => Nat.zero_le _
 | h :: r, j + 1 => by
  have := hoSum_take_le r j;rw [List.take_succ_cons, hoSum, hoSum]; omega
theorem belowN (B : Nat) (W : World) (n : Nat) : Below B W (W.drewN n) := ⟨rfl, rfl, rfl, Nat.le_refl _, fun _ _ => rfl⟩
def PSF (w : World) (e : Ending) (w' : World) : Prop := e = .returned (.bool true) /\ Below w.heap.size w w'
theorem sizesFlat_any (s : ByteArray) (hs0 : s.size <= 1048576) (k m : Int) (x : ByteArray) (l : List Vd) (ks : List ByteArray) (nl nk : Nat) (hnl : l.length = nl) (hnk : ks.length = nk) (hN : (Vd.mk k m x l ks).wt <= 1048583) (Al Ak : Option Addr) (cl ck : Nat) (w : World) (hl : RowsV w (fun _ => True) 5 Al 0 (vdRows l)) (hk : RowsV w (fun _ => True) 1 Ak 0 (strRows ks)) : Calls Tryz.prog 3 #[.string s, .agg #[.int .i64 k, .int .i64 m, .string x, .slice Al nl cl, .slice Ak nk ck]] w (PSF w) := by
 obtain ⟨W, hW⟩ := xE (w.alloc (.cells #[.int .i64 k, .int .i64 m, .string x, .slice Al nl cl, .slice Ak nk ck] 25))
 have hbw : Below w.heap.size w W := by rw [<- hW]; go_grown
 have HX : Hid (Blk W w.heap.size 25 #[.int .i64 k, .int .i64 m, .string x, .slice Al nl cl, .slice Ak nk ck]) := hid (by rw [<- hW]; exact Blk.new w _ _)
 have Hb := hid hbw
 have Hl := hid hl
 have Hk := hid hk
 have HA := hid (alive34_any W)
 have HC04 := hid (fun W' (hb : Below w.heap.size w W') => Check04_any k m x l ks nl nk hnl hnk hN Al Ak cl ck W' (hl.below hb) (hk.below hb))
 have HC25 := hid (fun W' => compile25_any s W' hs0)
 have HRn := hid (fun ad cu fs nb Ab cb W' (hU : U1 ad fs nb Ab cb W') (hb : Below w.heap.size w W') => run28_any ad cu fs nb Ab cb k m x l ks nl nk hnl hnk hN Al Ak cl ck W' hU (hl.below hb) (hk.below hb))
 obtain ⟨pb, hpb⟩ := xE w.heap.size
 rw [hpb] at HX
 clear hbw hl hk hN
 go_enter Tryz.func3, Tryz.ntmps3
 have hsz := hpb
 go_upto_region 3 with (go_at_call 4; refine HA.out.mono ?_; rintro e w1 ⟨rfl, hb1⟩)
 clear hW
 have HX1 := hid (HX.out.below hb1 HX.out.lt)
 have Hb1 := hid (Hb.out.trans (hb1.mono Hb.out.size))
 clear hb1 HX Hb HA
 obtain ⟨W1, rfl⟩ := xS w1
 have HC1 := hid (HC25.out W1)
 go_upto_region 4 with (go_at_call 5; refine HC1.out.mono ?_; rintro e w2 ⟨vu, pp, er, rfl, hu, hb2⟩)
 have HX2 := hid (HX1.out.below hb2 HX1.out.lt)
 have Hb2 := hid (Hb1.out.trans (hb2.mono Hb1.out.size))
 clear hb2 HX1 Hb1 HC1 HC25
 obtain ⟨W2, rfl⟩ := xS w2
 obtain ⟨q1, hq1⟩ := xE (er == 0)
 cases q1
 case false =>
  have hne : er ≠ 0 := beq_eq_false_iff_ne.1 hq1;have hneb : (er != 0) = true := bne_iff_ne.2 hne;clear hu;go_wp2_with fail
  go_ret;exact ⟨rfl, Hb2.out⟩
 obtain rfl : er = 0 := by simpa using hq1
 clear hq1
 rcases hu with rfl | ⟨n, cap, g, rfl, hn64, hgl, hrow⟩
 ·go_wp2_with fail
  go_ret;exact ⟨rfl, Hb2.out⟩
 rcases (show n ≠ 1 ∨ n = 1 by omega) with hn1 | hn1
 ·have hz : ((n : Int) == 1) = false := beq_eq_false_iff_ne.2 (by omega);have hz2 : ((n : Int) != 1) = true := bne_iff_ne.2 (by omega);have hz3 : (n == 1) = false := beq_eq_false_iff_ne.2 hn1;have hz4 : (n != 1) = true := bne_iff_ne.2 hn1;clear hrow;go_wp2_with fail
  go_ret;exact ⟨rfl, Hb2.out⟩
 subst hn1
 obtain ⟨A, bm, bc, kds, hcell, hkl, hm1024, hkd, hfl⟩ := un_flat hgl (hrow (by decide))
 have HFl := hid (flatC_any kds (by omega) A bc W2 W2.heap.size hkd (Nat.le_refl _))
 rw [hkl] at HFl
 have Hfl := hid hfl
 have hcell' : W2.cell? ⟨(Addr.add ⟨g, 0, none⟩ (0 * 18)).block, (Addr.add ⟨g, 0, none⟩ (0 * 18)).off + 17, none⟩ = some (.slice A bm bc) := hcell
 clear hrow hfl hkd
 obtain ⟨qf, hqf⟩ := xE (flatC kds)
 rw [hqf] at HFl
 have Hqf := hid hqf
 clear hqf
 cases qf
 case false =>
  go_wp2_with (go_at_call 6; refine HFl.out.mono ?_; rintro e w3 ⟨rfl, hb3⟩)
  go_ret;exact ⟨rfl, Hb2.out.trans (hb3.mono Hb2.out.size)⟩
 obtain ⟨fs, hU, hUs⟩ := Hfl.out Hqf.out
 have HU := hid hU
 have HU' : Hid ((∀ f ∈ fs, f.ok) /\ fs.length <= 1024) := hid ⟨hU.ok, by rw [hU.len]; exact hU.max⟩
 have HUs := hid hUs
 clear hU hUs Hfl Hqf
 go_upto_if 40 with (first | (go_at_call 6; refine HFl.out.mono ?_; rintro e w3 ⟨rfl, hb3⟩
                              have HX3 := hid (HX2.out.below hb3 HX2.out.lt);have Hb3 := hid (Hb2.out.trans (hb3.mono Hb2.out.size));have Hgr := hid hb3;have HK := hid (HC04.out w3 Hb3.out);obtain ⟨⟨c0, c1, c2, c3, c4⟩, -⟩ := blk5_cells HX3.out;clear hb3) | (go_at_call 7; refine HK.out.mono ?_; rintro e w4 ⟨n2, rfl, hb4⟩))
 have HX4 := hid (HX3.out.below hb4 HX3.out.lt)
 have Hb4 := hid (Hb3.out.trans (hb4.mono Hb3.out.size))
 have hgr4 := Hgr.out.trans (hb4.mono Hgr.out.size)
 have HU4 := hid (HU.out.below hgr4)
 have HUs4 := hid (fun j hj => (HUs.out j hj).imp fun ad h => ⟨h.1, UnAt.keep (fun p hp => hgr4.cell hp) h.2⟩ : UnsAt w4 W2.heap.size (some ⟨g, 0, none⟩) [fs.map Fn.nd])
 have Hgs := hid hgr4.size
 clear hb4 c0 c1 c2 c3 c4 HX2 HX3 Hb2 Hb3 Hgr HK HFl HU HUs hgr4 hcell hcell' HC04
 obtain ⟨W4, rfl⟩ := xS w4
 obtain ⟨q2, hq2⟩ := xE (n2 == 0)
 cases q2
 case false =>
  have hne : n2 ≠ 0 := beq_eq_false_iff_ne.1 hq2;have hneb : (n2 != 0) = true := bne_iff_ne.2 hne;go_wp2_with fail
  go_ret;exact ⟨rfl, Hb4.out⟩
 obtain rfl : n2 = 0 := by simpa using hq2
 clear hq2
 go_upto_region 6 with fail
 refine wp_region_lit ?_
 refine mv (.slice (some ⟨g, 0, none⟩) 1 cap) ?_
 refine ld [.int .i64 k, .int .i64 m, .string x, .slice Al nl cl, .slice Ak nk ck] HX4.out ?_
 have HR := hid (HRn.out _ cap fs bm A bc W4 HU4.out Hb4.out)
 refine wpl_enter (some 44) rfl rfl (by go_simp) (HR.out) ?_
 rintro e w5 ⟨out, er2, at_, Ah, nh, ch, us, f, rfl, hb5, hgood, hbad⟩
 refine ⟨_, rfl, ?_⟩
 simp only [Act.put, aQ, aZ, aC]
 refine mv (.tuple #[.agg #[.string out, .int .i64 er2, .int .i64 at_, .slice none 0 0, .slice Ah nh ch, .int .i64 us], .int .i64 f]) ?_
 refine mv (.agg #[.string out, .int .i64 er2, .int .i64 at_, .slice none 0 0, .slice Ah nh ch, .int .i64 us]) ?_
 refine mv (.int .i64 f) ?_
 refine wpl_val (some 8) (v := .pointer (some ⟨w5.heap.size, 0, none⟩)) (w' := w5.alloc (.cells #[.string ⟨#[]⟩, .int .i64 0, .int .i64 0, .slice none 0 0, .slice none 0 0, .int .i64 0] 40)) rfl rfl (by go_simp) ?_
 simp only [Act.put, aQ, aZ, aC]
 refine st [.string out, .int .i64 er2, .int .i64 at_, .slice none 0 0, .slice Ah nh ch, .int .i64 us] (Blk.new w5 40 #[.string ⟨#[]⟩, .int .i64 0, .int .i64 0, .slice none 0 0, .slice none 0 0, .int .i64 0]) ?_
 refine mv (.int .i64 f) ?_
 refine wpList_nil ?_
 (try simp only [Exit.then])
 have hst : Below w5.heap.size w5 ((w5.alloc (.cells #[.string ⟨#[]⟩, .int .i64 0, .int .i64 0, .slice none 0 0, .slice none 0 0, .int .i64 0] 40)).setCells w5.heap.size 0 [.string out, .int .i64 er2, .int .i64 at_, .slice none 0 0, .slice Ah nh ch, .int .i64 us]) := (alloc_below _ _).trans (below_setCells _ (Nat.le_refl _))
 have HP : Hid (Blk ((w5.alloc (.cells #[.string ⟨#[]⟩, .int .i64 0, .int .i64 0, .slice none 0 0, .slice none 0 0, .int .i64 0] 40)).setCells w5.heap.size 0 [.string out, .int .i64 er2, .int .i64 at_, .slice none 0 0, .slice Ah nh ch, .int .i64 us]) w5.heap.size 40 #[.string out, .int .i64 er2, .int .i64 at_, .slice none 0 0, .slice Ah nh ch, .int .i64 us]) := hid (Blk.put (Blk.new w5 _ _) rfl)
 have Hgood := hid (fun h1 h2 => by
  obtain ⟨hs, base, g1, g2, g3, g4, g5, g6⟩ := hgood h1 h2;exact ⟨hs, g1, (hos_of g1 g2).below hst, g3, g4, g5, g6⟩ : f = 0 -> er2 = 0 -> ∃ hs : List Ho, hs.length = nh /\ HosAt ((w5.alloc (.cells #[.string ⟨#[]⟩, .int .i64 0, .int .i64 0, .slice none 0 0, .slice none 0 0, .int .i64 0] 40)).setCells w5.heap.size 0 [.string out, .int .i64 er2, .int .i64 at_, .slice none 0 0, .slice Ah nh ch, .int .i64 us]) Ah hs /\ nh = acts fs /\ hoSum hs + octs fs = out.size /\ out.size <= 65536 /\ ∀ h ∈ hs, h.a <= h.b /\ h.b <= 65536)
 have Hbad := hid hbad
 have hgr5 := hb5.trans (hst.mono hb5.size)
 have HUs5 := hid (fun j hj => (HUs4.out j hj).imp fun ad h => ⟨h.1, UnAt.keep (fun p hp => hgr5.cell (Nat.lt_of_lt_of_le hp Hgs.out)) h.2⟩ : UnsAt ((w5.alloc (.cells #[.string ⟨#[]⟩, .int .i64 0, .int .i64 0, .slice none 0 0, .slice none 0 0, .int .i64 0] 40)).setCells w5.heap.size 0 [.string out, .int .i64 er2, .int .i64 at_, .slice none 0 0, .slice Ah nh ch, .int .i64 us]) W2.heap.size (some ⟨g, 0, none⟩) [fs.map Fn.nd])
 have Hb5 := hid (Hb4.out.trans (hgr5.mono Hb4.out.size))
 have Hgs5 := hid (Nat.le_trans Hgs.out hgr5.size)
 obtain ⟨W5, hW5⟩ := xE ((w5.alloc (.cells #[.string ⟨#[]⟩, .int .i64 0, .int .i64 0, .slice none 0 0, .slice none 0 0, .int .i64 0] 40)).setCells w5.heap.size 0 [.string out, .int .i64 er2, .int .i64 at_, .slice none 0 0, .slice Ah nh ch, .int .i64 us])
 rw [hW5] at HP Hgood HUs5 Hb5 Hgs5 ⊢
 obtain ⟨pr, hpr⟩ := xE w5.heap.size
 rw [hpr] at HP ⊢
 clear hW5 hpr hst hgr5 hgood hbad hb5 HR HX4 Hb4 HU4 HUs4 Hgs HRn
 obtain ⟨⟨r0, r1, r2, r3, r4, r5⟩, -⟩ := blk6_cells HP.out
 obtain ⟨qa, hqa⟩ := xE (f == 0)
 obtain ⟨qb, hqb⟩ := xE (er2 == 0)
 cases qa
 case false =>
  have hne : f ≠ 0 := beq_eq_false_iff_ne.1 hqa;have hneb : (f != 0) = true := bne_iff_ne.2 hne;obtain rfl := Hbad.out (.inl hne);clear Hgood hqb;go_wp2_with fail
  go_ret;exact ⟨rfl, Hb5.out⟩
 obtain rfl : f = 0 := by simpa using hqa
 clear hqa
 cases qb
 case false =>
  have hne : er2 ≠ 0 := beq_eq_false_iff_ne.1 hqb;have hneb : (er2 != 0) = true := bne_iff_ne.2 hne;obtain rfl := Hbad.out (.inr hne);clear Hgood;go_wp2_with fail
  go_ret;exact ⟨rfl, Hb5.out⟩
 obtain rfl : er2 = 0 := by simpa using hqb
 clear hqb Hbad
 obtain ⟨hs, hhl, hho, hna, hsum, ho64, hfine⟩ := Hgood.out rfl rfl
 have Hho := hid hho
 have Hfine := hid hfine
 have Hsum := hid hsum
 have Hok := hid HU'.out
 have hnd := nds_sz fs (fun q hq => (Hok.out.1 q hq).1)
 have hal := acts_le fs
 have hol : octs fs <= 65536 := by omega
 have hln := Hok.out.2
 have hfl : [fs.map Fn.nd].flatten = fs.map Fn.nd := by simp
 have Hun : Hid (Calls Tryz.prog 9 #[.slice (some ⟨g, 0, none⟩) 1 cap] W5 fun e w' => e = .returned (.complex .f64 (fW ((octs fs : Nat) : Int)) (fW ((acts fs : Nat) : Int))) /\ Below W5.heap.size W5 w') := hid (by
  have h := units_any [fs.map Fn.nd] (by simp) (by rw [hfl, nds_num]; omega) (by rw [hfl, hnd]; show octs fs <= _; omega) (by rw [hfl, hnd]; show acts fs <= _; omega) (some ⟨g, 0, none⟩) cap W5 W2.heap.size HUs5.out Hgs5.out;rw [hfl, hnd] at h;exact h)
 have Hac := hid (fun W => (actions_any ((octs fs : Nat) : Int) ((acts fs : Nat) : Int) (by omega) W).mono fun e w' h => (⟨by rw [h.1, <- hna], h.2.symm⟩ : e = .returned (.int .i64 (nh : Int)) /\ w' = W))
 have Hoc := hid (fun W => (octets_any ((octs fs : Nat) : Int) ((acts fs : Nat) : Int) (by omega) W).mono fun e w' h => (⟨by rw [h.1, show ((octs fs : Nat) : Int) = (out.size : Int) - (hoSum hs : Int) by omega], h.2.symm⟩ : e = .returned (.int .i64 ((out.size : Int) - (hoSum hs : Int))) /\ w' = W))
 obtain ⟨fo, hfo⟩ := xE (fW ((octs fs : Nat) : Int))
 obtain ⟨fa, hfa⟩ := xE (fW ((acts fs : Nat) : Int))
 rw [hfo, hfa] at Hun Hac Hoc
 have hh1 : hoSum hs <= out.size := by omega
 have hnh1 : nh <= 1024 := by omega
 have Hhl := hid hhl
 clear hho hfine hsum hna hnd hal hol hln hfl hfo hfa hhl
 go_upto_region 10 with (go_at_call 9; refine Hun.out.mono ?_; rintro e w6 ⟨rfl, hb6⟩)
 have HP6 := hid (HP.out.below hb6 HP.out.lt)
 have Hho6 := hid (Hho.out.below hb6)
 have Hb6 := hid (Hb5.out.trans (hb6.mono Hb5.out.size))
 clear hb6 HP Hho Hb5 HUs5 Hgs5 Hun r0 r1 r2 r3 r4 r5
 obtain ⟨W6, rfl⟩ := xS w6
 go_wp2_with fail
 go_loopw [11, 12] (fun c i wr => ∃ j : Nat, j <= nh /\ c = .int .i64 ((hoSum (hs.take j) : Nat) : Int) /\ i = .int .i64 (j : Int) /\ Hid (Below w.heap.size w wr) /\ Hid (Blk wr pr 40 #[.string out, .int .i64 0, .int .i64 at_, .slice none 0 0, .slice Ah nh ch, .int .i64 us]) /\ Hid (HosAt wr Ah hs)) (fun _ i _ => nh - (intOf i).toNat)
 case atStart => exact ⟨0, Nat.zero_le _, rfl, rfl, Hb6, HP6, Hho6⟩
 obtain ⟨j, hj, rfl, rfl, Hbw, HPw, Hhw⟩ := hrel
 obtain ⟨⟨r0, r1, r2, r3, r4, r5⟩, -⟩ := blk6_cells HPw.out
 by_cases hlt : j < nh
 ·have hjl : j < hs.length := by rw [Hhl.out]; exact hlt
  obtain ⟨gh, rfl, hg1, ca, cb⟩ := Hhw.out j hjl;have hfi := Hfine.out _ (List.getElem_mem hjl);have htk := hoSum_take hs j hjl;have hle := hoSum_take_le hs (j + 1);have Htk := hid htk;obtain ⟨ha, hha⟩ := xE (hs[j]).a;obtain ⟨hb, hhb⟩ := xE (hs[j]).b;obtain ⟨u, hu⟩ := xE (hoSum (hs.take j));rw [hha, hhb] at hfi Htk;rw [hu] at Htk ⊢;rw [hha] at ca;rw [hhb] at cb;have hu1 : u <= 65536 := by rw [<- hu]; exact Nat.le_trans (hoSum_take_le hs j) (by omega)
  obtain ⟨hab, hb6⟩ := hfi;clear htk hle hha hhb hu;go_wp2_with (go_quiet (fail))
  go_roundw
  case rel => exact ⟨j + 1, hlt, by rw [Htk.out]; go_num, by go_num, hid (Hbw.out.trans (belowN _ _ _)), hid (HPw.out.drewN _), hid (Hhw.out.below (belowN _ _ _))⟩
  simp [intOf]; omega
 obtain rfl : j = nh := by omega
 have hall : hs.take j = hs := List.take_of_length_le (by rw [Hhl.out]; exact Nat.le_refl _)
 rw [hall]
 clear hall
 go_wp2_with (go_quiet (first | (go_at_call 10; exact Calls.quiet_of_same (Hac.out _)) | (go_at_call 11; exact Calls.quiet_of_same (Hoc.out _))))
 go_ret
 exact ⟨rfl, Hbw.out.trans (belowN _ _ _)⟩
section
open Go.ChangeShapes Go.WideShapes Go.Deep Go.RowKit
theorem cellLt4 {w : World} {p : Addr} {v : Value} (h : w.cell? p = some v) : p.block < w.heap.size := by
 rcases Nat.lt_or_ge p.block w.heap.size with h1 | h1
 ·exact h1
 exfalso
 have : w.heap[p.block]? = none := Array.getElem?_eq_none h1
 simp [World.cell?, this] at h
theorem addBlock4 (p : Addr) (j : Nat) : (p.add j).block = p.block := by
 unfold Addr.add
 split <;> rfl
theorem lenData4 (s : ByteArray) : s.data.toList.length = s.size := Array.length_toList
theorem listOf4 {α : Type} {n : Nat} {P : Nat -> α -> Prop} (h : ∀ i, i < n -> ∃ a, P i a) : ∃ l : List α, l.length = n /\ ∀ i (hi : i < l.length), P i l[i] := by
 refine ⟨List.ofFn fun i : Fin n => (h i.val i.isLt).choose, by simp, fun i hi => ?_⟩
 have hi' : i < n := by simpa using hi
 rw [List.getElem_ofFn]
 exact (h i hi').choose_spec
theorem vds_sums {H : Type} : ∀ (l : List Vd) (ds : List (DataW H)), l.length = ds.length -> (∀ k (h : k < l.length) (h' : k < ds.length), l[k].wt <= Rows.uptoBulk ds[k]) -> vdsWt l <= Rows.uptoBulkAll ds
 | [], ds, _, _ => by simp [vdsWt]
 | n :: r, [], h, _ => by simp at h
 | n :: r, d :: ds, h, hall => by
  have h0 := hall 0 (by simp) (by simp);have h1 := vds_sums r ds (by simpa using h) fun k hk hk' => hall (k + 1) (by simpa using hk) (by simpa using hk')
  simp only [List.getElem_cons_zero] at h0;simp only [vdsWt, Rows.uptoBulkAll];omega
theorem str_sums {H : Type} : ∀ (l : List ByteArray) (ds : List (DataW H)), l.length = ds.length -> (∀ k (h : k < l.length) (h' : k < ds.length), 1 + l[k].size <= Rows.uptoBulk ds[k]) -> strWt l <= Rows.uptoBulkAll ds
 | [], ds, _, _ => by simp [strWt]
 | n :: r, [], h, _ => by simp at h
 | n :: r, d :: ds, h, hall => by
  have h0 := hall 0 (by simp) (by simp);have h1 := str_sums r ds (by simpa using h) fun k hk hk' => hall (k + 1) (by simpa using hk) (by simpa using hk')
  simp only [List.getElem_cons_zero] at h0;simp only [strWt, Rows.uptoBulkAll];omega
section
variable {H : Type} {enc : TypeId × Value -> H} {w : World}
theorem open_strs4 {fuel : Nat} {cs : List Value} {x : DataW H × List MemPlace} (h : DataW.trod enc Tryz.prog w 0 (fun _ => true) true fuel 23 cs = some x) :
  ∃ (A : Option Addr) (n cap : Nat) (l : List ByteArray), cs = [.slice A n cap] /\ l.length = n /\ RowsV w (fun _ => True) 1 A 0 (strRows l) /\ strWt l + 1 <= Rows.uptoBulk x.1 := by
 rcases DataW.trod_slice Tryz.underlying23 h with ⟨rfl, rfl⟩ | ⟨a, len, cap, elems, rest, n, rfl, rfl, rfl, hb, hlc, hcm, hlen, hel, _, _⟩
 ·exact ⟨none, 0, 0, [], rfl, rfl, by unfold strRows List.map RowsV; trivial, by simp [strWt, Rows.uptoBulk]⟩
 have hC : Tryz.prog.cellsOf 9 = 1 := by kernel_rfl
 have hex : ∀ i, i < len -> ∃ s : ByteArray, w.cell? (a.add (i * 1)) = some (.string s) /\ ∀ (h' : i < (elems.map (·.1)).length), 1 + s.size <= Rows.uptoBulk (elems.map (·.1))[i] := by
  intro i hi;have hil : i < elems.length := by omega
  have h1 := hel i hi;rw [hC, List.getElem?_eq_getElem hil] at h1;cases hcs : w.cells? 0 (a.add (i * 1)) 1 with
  | none => rw [hcs] at h1; cases h1
  | some cs' =>
   rw [hcs] at h1;have ht : DataW.trod enc Tryz.prog w 0 (fun _ => true) true n 9 cs' = some elems[i] := h1;obtain ⟨_, hcl2, hat⟩ := World.cells?_some hcs;obtain ⟨s, e, p, _⟩ := DataW.trod_string Tryz.underlying9 ht;subst e;refine ⟨s, ?_, fun h' => ?_⟩
   ·have := hat 0 (by decide);rw [addr_zero] at this;exact this
   rw [List.getElem_map, p];simp [Rows.uptoBulk];omega
 obtain ⟨l, hl, hall⟩ := listOf4 hex
 have hll : l.length = (elems.map (·.1)).length := by rw [List.length_map]; omega
 have hs := str_sums l (elems.map (·.1)) hll fun k hk hk' => (hall k hk).2 hk'
 refine ⟨some a, len, cap, l, rfl, hl, ?_, by simp only [Rows.uptoBulk]; omega⟩
 refine rows_of_list _ 0 fun j hj => ?_
 have hj' : j < l.length := by simpa [strRows] using hj
 have hc := (hall j hj').1
 have hg : (strRows l)[j] = [.str l[j]] := by simp [strRows]
 rw [hg, Nat.zero_add]
 refine ⟨⟨trivial, ?_⟩, rfl, ?_⟩
 ·have := cellLt4 hc;rw [addBlock4] at this;exact this
 unfold RowV RowV DtV
 exact ⟨⟨_, by rw [addr_zero]; exact hc, rfl⟩, trivial⟩
def VdsR (w : World) (cs : List Value) (d : DataW H) : Prop := ∃ (A : Option Addr) (n cap : Nat) (l : List Vd), cs = [.slice A n cap] /\ l.length = n /\ RowsV w (fun _ => True) 5 A 0 (vdRows l) /\ vdsWt l + 1 <= Rows.uptoBulk d
theorem val_parts {fuel : Nat} {cs : List Value} {x : DataW H × List MemPlace} (h : DataW.trod enc Tryz.prog w 0 (fun _ => true) true fuel 25 cs = some x)
  (ih : ∀ n', n' < fuel -> ∀ (cs : List Value) (x : DataW H × List MemPlace), DataW.trod enc Tryz.prog w 0 (fun _ => true) true n' 22 cs = some x -> VdsR w cs x.1) :
  ∃ (k m : Int) (s : ByteArray) (l : List Vd) (ks : List ByteArray) (nl nk : Nat) (Al Ak : Option Addr) (cl ck : Nat), cs = [.int .i64 k, .int .i64 m, .string s, .slice Al nl cl, .slice Ak nk ck] /\ l.length = nl /\ ks.length = nk /\ RowsV w (fun _ => True) 5 Al 0 (vdRows l) /\ RowsV w (fun _ => True) 1 Ak 0 (strRows ks) /\ (Vd.mk k m s l ks).wt <= Rows.uptoBulk x.1 := by
 have hone : oneCellFields Tryz.prog _ = true := (show oneCellFields Tryz.prog (match Tryz.prog.underlying 25 with | some (.struct fs) => fs | _ => #[]) = true by kernel_rfl)
 obtain ⟨ys, n', rfl, hy, hcl, hyl, hf⟩ := DataW.trod_struct Tryz.underlying25 h
 have hcl5 : cs.length = 5 := hcl
 have hyl5 : ys.length = 5 := hyl
 have hfl : ∀ (j : Nat) (f : Field), (match Tryz.prog.underlying 25 with | some (.struct fs) => fs | _ => #[])[j]? = some f -> j < 5 -> ∃ (v : Value) (y : DataW H × List MemPlace), cs[j]? = some v /\ ys[j]? = some y /\ DataW.trod enc Tryz.prog w 0 (fun _ => true) true n' f.type [v] = some y := by
  intro j f hj hj5;obtain ⟨ho, hk⟩ := hone_of hone j f hj;have h1 := hf j f hj;rw [ho, hk] at h1;have hone' : (cs.drop j).take 1 = [cs[j]'(by omega)] := by
   rw [List.drop_eq_getElem_cons (by omega)];rfl
  rw [hone'] at h1;have hys : ys[j]? = some (ys[j]'(by omega)) := List.getElem?_eq_getElem (by omega);exact ⟨_, _, List.getElem?_eq_getElem (by omega), hys, h1.trans hys⟩
 obtain ⟨v0, y0, c0, q0, t0⟩ := hfl 0 _ rfl (by decide)
 obtain ⟨v1, y1, c1, q1, t1⟩ := hfl 1 _ rfl (by decide)
 obtain ⟨v2, y2, c2, q2, t2⟩ := hfl 2 _ rfl (by decide)
 obtain ⟨v3, y3, c3, q3, t3⟩ := hfl 3 _ rfl (by decide)
 obtain ⟨v4, y4, c4, q4, t4⟩ := hfl 4 _ rfl (by decide)
 obtain ⟨n0, e0, z0, w0⟩ := DataW.trod_int Tryz.underlying3 t0
 obtain ⟨n1, e1, z1, w1⟩ := DataW.trod_int Tryz.underlying3 t1
 obtain ⟨s2, e2, z2, w2⟩ := DataW.trod_string Tryz.underlying9 t2
 obtain rfl : v0 = .int .i64 n0 := by simpa using e0
 obtain rfl : v1 = .int .i64 n1 := by simpa using e1
 obtain rfl : v2 = .string s2 := by simpa using e2
 obtain ⟨Al, nl, cl, l, e3, hl, hlr, hlw⟩ := ih n' (by omega) _ _ t3
 obtain ⟨Ak, nk, ck, ks, e4, hk, hkr, hkw⟩ := open_strs4 t4
 obtain rfl : v3 = .slice Al nl cl := by simpa using e3
 obtain rfl : v4 = .slice Ak nk ck := by simpa using e4
 have hcs : cs = [.int .i64 n0, .int .i64 n1, .string s2, .slice Al nl cl, .slice Ak nk ck] := by
  apply List.ext_getElem?;intro j
  match j with
  | 0 => exact c0
  | 1 => exact c1
  | 2 => exact c2
  | 3 => exact c3
  | 4 => exact c4
  | k + 5 => rw [List.getElem?_eq_none (by omega)]; simp
 have hys : ys = [y0, y1, y2, y3, y4] := by
  apply List.ext_getElem?;intro j
  match j with
  | 0 => exact q0
  | 1 => exact q1
  | 2 => exact q2
  | 3 => exact q3
  | 4 => exact q4
  | k + 5 => rw [List.getElem?_eq_none (by omega)]; simp
 refine ⟨n0, n1, s2, l, ks, nl, nk, Al, Ak, cl, ck, hcs, hl, hk, hlr, hkr, ?_⟩
 subst hys
 rw [Vd.wt]
 subst hy
 simp only [List.map_cons, List.map_nil, Rows.uptoBulk, Rows.uptoBulkAll]
 rw [z0, z1, z2]
 simp only [Rows.uptoBulk]
 have := lenData4 s2
 omega
theorem open_vds4 : ∀ (fuel : Nat) (cs : List Value) (x : DataW H × List MemPlace), DataW.trod enc Tryz.prog w 0 (fun _ => true) true fuel 22 cs = some x -> VdsR w cs x.1 := by
 intro fuel
 induction fuel using Nat.strongRecOn with
 | ind fuel ih =>
  intro cs x h;rcases DataW.trod_slice Tryz.underlying22 h with ⟨rfl, rfl⟩ | ⟨a, len, cap, elems, rest, n, rfl, rfl, rfl, hb, hlc, hcm, hlen, hel, _, _⟩
  ·exact ⟨none, 0, 0, [], rfl, rfl, by unfold vdRows RowsV; trivial, by simp [vdsWt, Rows.uptoBulk]⟩
  have hC : Tryz.prog.cellsOf 25 = 5 := by kernel_rfl
  have hex : ∀ i, i < len -> ∃ v : Vd, (a.block < w.heap.size /\ RowV w (fun _ => True) (a.add (i * 5)) 0 v.row) /\ ∀ (h' : i < (elems.map (·.1)).length), v.wt <= Rows.uptoBulk (elems.map (·.1))[i] := by
   intro i hi;have hil : i < elems.length := by omega
   have h1 := hel i hi;rw [hC, List.getElem?_eq_getElem hil] at h1;cases hcs : w.cells? 0 (a.add (i * 5)) 5 with
   | none => rw [hcs] at h1; cases h1
   | some cs' =>
    rw [hcs] at h1;have ht : DataW.trod enc Tryz.prog w 0 (fun _ => true) true n 25 cs' = some elems[i] := h1;obtain ⟨_, hcl2, hat⟩ := World.cells?_some hcs;obtain ⟨k, m, s, l, ks, nl, nk, Al, Ak, cl, ck, e, hl, hk, hlr, hkr, hwt⟩ := val_parts ht (fun n' hn => ih n' (by omega));subst e;refine ⟨.mk k m s l ks, ⟨?_, ?_⟩, fun h' => ?_⟩
    ·have := cellLt4 (hat 0 (by decide));rw [addBlock4, addBlock4] at this;exact this
    ·rw [Vd.row];unfold RowV RowV RowV RowV RowV RowV;unfold DtV;refine ⟨⟨_, hat 0 (by decide), rfl⟩, ⟨_, hat 1 (by decide), rfl⟩, ⟨_, hat 2 (by decide), rfl⟩, ⟨_, hat 3 (by decide), Al, cl, ?_, hlr⟩, ⟨_, hat 4 (by decide), Ak, ck, ?_, hkr⟩, trivial⟩
     ·rw [vdRows_map, List.length_map, hl]
     simp [strRows, hk]
    rw [List.getElem_map];exact hwt
  obtain ⟨l, hl, hall⟩ := listOf4 hex;have hll : l.length = (elems.map (·.1)).length := by rw [List.length_map]; omega
  have hs := vds_sums l (elems.map (·.1)) hll fun k hk hk' => (hall k hk).2 hk'
  refine ⟨some a, len, cap, l, rfl, hl, ?_, by simp only [Rows.uptoBulk]; omega⟩;rw [vdRows_map];refine rows_of_list _ 0 fun j hj => ?_
  have hj' : j < l.length := by simpa using hj
  obtain ⟨hb1, hr1⟩ := (hall j hj').1;rw [List.getElem_map, Nat.zero_add];refine ⟨⟨trivial, hb1⟩, ?_, hr1⟩;cases l[j]; rfl
theorem open_val4 {r : Reach} {b0 : Nat} {v : Value} {d : DataW H} {ps : List MemPlace} (hval : Value.okWide Tryz.prog w r b0 25 v) (hd : DataW.Trod enc Tryz.prog w 0 (fun _ => true) true 25 v d ps) :
  ∃ (k m : Int) (s : ByteArray) (l : List Vd) (ks : List ByteArray) (nl nk : Nat) (Al Ak : Option Addr) (cl ck : Nat), v = .agg #[.int .i64 k, .int .i64 m, .string s, .slice Al nl cl, .slice Ak nk ck] /\ l.length = nl /\ ks.length = nk /\ RowsV w (fun _ => True) 5 Al 0 (vdRows l) /\ RowsV w (fun _ => True) 1 Ak 0 (strRows ks) /\ (Vd.mk k m s l ks).wt <= Rows.uptoBulk d := by
 obtain ⟨cs, rfl, _⟩ := okWide_struct Tryz.underlying25 hval
 obtain ⟨fuel, hf⟩ := hd
 obtain ⟨k, m, s, l, ks, nl, nk, Al, Ak, cl, ck, e, h1, h2, h3, h4, h5⟩ := val_parts hf (fun n' _ => open_vds4 n')
 refine ⟨k, m, s, l, ks, nl, nk, Al, Ak, cl, ck, ?_, h1, h2, h3, h4, h5⟩
 obtain ⟨xs⟩ := cs
 have : xs = _ := e
 rw [this]
end
end
section
open Go.ChangeShapes Go.WideShapes Go.ChangeAt Go.RowKit
open Go.ChangeMaps (setBlock shut_map_nil open_string shut_string keptBut_setBlock frozen?_setBlock heap_setBlock_same)
section
variable {H : Type} {enc : TypeId × Value -> H}
theorem sizesFlat_step (W : World) (base : Nat) (args : Array Value) (ds gs : List (DataW H)) (before : List MemPlace)
  (hval : ∀ (j : Nat) t v, Tryz.f3.params[j]? = some t -> args[j]? = some v -> Value.okWide Tryz.prog W .any base t v)
  (hW : DataW.Whole enc Tryz.prog Tryz.f3.params.toList Rows.sizesFlatSpec.vars false W args.toList ds gs before) (hk : Rows.uptoSmall H (ds ++ gs) = true) :
  Calls Tryz.prog 3 args W fun e W' => ∃ v, e = .returned v /\ Rows.sizesFlatSpec.post enc Tryz.prog Tryz.f3 false true false false W args v W' := by
 have hW' := hW
 obtain ⟨p, q, hA0, hV, rfl, hfz, hnd⟩ := hW
 have hA : DataW.TrodAll enc Tryz.prog W 0 (fun _ => true) true Tryz.f3.params.toList args.toList ds p := hA0
 rw [Tryz.params3] at hA hval
 obtain ⟨v0, vs0, d0, ds0, p0, q0, hargs, rfl, rfl, h0, r0⟩ := trodAll_cons hA
 obtain ⟨v1, vs1, d1, ds1, p1, q1, rfl, rfl, rfl, h1, r1⟩ := trodAll_cons r0
 obtain ⟨rfl, rfl, rfl⟩ := trodAll_nil r1
 obtain rfl : args = #[v0, v1] := by cases args; simp_all
 obtain ⟨rfl, rfl⟩ := trodVars_none hV
 obtain ⟨s0, rfl, rfl, rfl, ws0⟩ := open_string Tryz.underlying9 (hval 0 9 v0 rfl rfl) h0
 obtain ⟨k, m, x, l, ks, nl, nk, Al, Ak, cl, ck, rfl, hnl, hnk, hl, hkr, hwt⟩ := open_val4 (hval 1 25 v1 rfl rfl) h1
 have hbk : Rows.uptoBulkAll _ <= 1048576 := of_decide_eq_true hk
 simp only [List.append_nil, Rows.uptoBulkAll, Rows.uptoBulk, lenData4] at hbk
 refine (sizesFlat_any s0 (by omega) k m x l ks nl nk hnl hnk (by omega) Al Ak cl ck W hl hkr).mono fun e W' ⟨he, hb⟩ => ?_
 subst he
 exact ⟨_, rfl, law_post laidOut (tb := 4) (by kernel_rfl) Tryz.underlying4 (of_decide_eq_true (by kernel_rfl)) rfl rfl hW' hb⟩
end
theorem sizesFlat_lifted (os : Os) (started : os.Started) (H : Type) (enc : TypeId × Value -> H) (F : Stop.Interp) :
  ReturnsInHanded {} Tryz.checked os 3 .any ((Rows.OpenSpec.upto Rows.sizesFlatSpec).pre6 enc Tryz.prog Tryz.f3 Rows.sizesFlatUptoRow.domain false) (((Rows.OpenSpec.upto Rows.sizesFlatSpec).at F).post enc Tryz.prog Tryz.f3 false true false false) := by
 refine returnsInHanded_of_cond (C := Tryz.checked) (s := Rows.OpenSpec.upto Rows.sizesFlatSpec) (k := Rows.uptoSmall) rfl own started (by kernel_rfl) Tryz.func3
  (OpenSpec.witness (enc := enc) (C := Tryz.checked) (s := Rows.OpenSpec.upto Rows.sizesFlatSpec) (k := Rows.uptoSmall) rfl false ⟨#[], #[.string ⟨#[]⟩, .agg #[.int .i64 0, .int .i64 0, .string ⟨#[]⟩, .slice none 0 0, .slice none 0 0]], []⟩ 8 (by kernel_rfl) (by kernel_rfl) (by kernel_rfl)
   (x := ([.lit (.string []), .agg [.lit (.int .i64 0), .lit (.int .i64 0), .lit (.string []), .nil, .nil]], [], [])) (by kernel_rfl) rfl (by kernel_rfl)) ?_
 intro W base args ds gs before hval hW _ hk _
 exact sizesFlat_step W base args ds gs before hval hW hk
theorem SizesFlat_holds : Rows.SizesFlatUptoSaid :=
 OpenClaim.holds_of_cond 3 Tryz.f3 rfl rfl rfl rfl rfl rfl rfl ⟨rfl, rfl, rfl, rfl, rfl⟩ rfl rfl rfl rfl rfl (by kernel_rfl) Tryz.func3 (by kernel_rfl)
  (of_decide_eq_true (by kernel_rfl)) (by unfold Func.isWrapper; first | (rw [if_pos (by decide +kernel)]; kernel_rfl) | (rw [if_neg (by decide +kernel)]; exact ⟨rfl, rfl⟩))
  (fun os started H enc _ F => sizesFlat_lifted os started H enc F)
#print axioms SizesFlat_holds
end
end Go.Proofs.YtkcnmjdomipbjaaGreat
