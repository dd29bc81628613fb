import Derived.Deep.RegionHeld3
import Derived.Deep.QuietTactic
import Derived.BigRegion
import Derived.Test.YtkcnmjdomipbjaaGreatS31
set_option linter.unusedVariables false
set_option maxHeartbeats 100000000
set_option maxRecDepth 100000
namespace Go.Proofs.YtkcnmjdomipbjaaGreat
open Go.RowKit
theorem PIn.node9 {base pb : Nat} {its : List It} {sz : Nat} {vd : Value} {AL : Option Addr} {cL : Nat} {w : World} {g : Nat} {a0 a1 a2 a3 a4 a5 a6 a7 a8 v0 v1 v2 v3 v4 v5 v6 v7 v8 : Value} (h : PIn base pb its sz vd AL cL w) (hB : Blk w g 52 #[a0, a1, a2, a3, a4, a5, a6, a7, a8]) : PIn base pb its sz vd AL cL (((((((((w.setCell ⟨g, 0, none⟩ v0).setCell ⟨g, 1, none⟩ v1).setCell ⟨g, 2, none⟩ v2).setCell ⟨g, 3, none⟩ v3).setCell ⟨g, 4, none⟩ v4).setCell ⟨g, 5, none⟩ v5).setCell ⟨g, 6, none⟩ v6).setCell ⟨g, 7, none⟩ v7).setCell ⟨g, 8, none⟩ v8) := by
 have e1 := h.set_ (i := 0) hB (by decide) v0
 have b1 := hB.set_ 0 v0
 have e2 := e1.set_ (i := 1) b1 (by decide) v1
 have b2 := b1.set_ 1 v1
 have e3 := e2.set_ (i := 2) b2 (by decide) v2
 have b3 := b2.set_ 2 v2
 have e4 := e3.set_ (i := 3) b3 (by decide) v3
 have b4 := b3.set_ 3 v3
 have e5 := e4.set_ (i := 4) b4 (by decide) v4
 have b5 := b4.set_ 4 v4
 have e6 := e5.set_ (i := 5) b5 (by decide) v5
 have b6 := b5.set_ 5 v5
 have e7 := e6.set_ (i := 6) b6 (by decide) v6
 have b7 := b6.set_ 6 v6
 have e8 := e7.set_ (i := 7) b7 (by decide) v7
 have b8 := b7.set_ 7 v7
 have e9 := e8.set_ (i := 8) b8 (by decide) v8
 exact e9
theorem TF.put9 {X : TypeId -> Bool} {base : Nat} {w w' : World} {g : Nat} {v0 v1 v2 v3 v4 v5 v6 v7 v8 : Value} (h : TF X base w w') (hg : w.heap.size <= g) : TF X base w (((((((((w'.setCell ⟨g, 0, none⟩ v0).setCell ⟨g, 1, none⟩ v1).setCell ⟨g, 2, none⟩ v2).setCell ⟨g, 3, none⟩ v3).setCell ⟨g, 4, none⟩ v4).setCell ⟨g, 5, none⟩ v5).setCell ⟨g, 6, none⟩ v6).setCell ⟨g, 7, none⟩ v7).setCell ⟨g, 8, none⟩ v8) :=
 ((((((((h.setCell (p := ⟨g, 0, none⟩) (.inl hg) v0).setCell (p := ⟨g, 1, none⟩) (.inl hg) v1).setCell (p := ⟨g, 2, none⟩) (.inl hg) v2).setCell (p := ⟨g, 3, none⟩) (.inl hg) v3).setCell (p := ⟨g, 4, none⟩) (.inl hg) v4).setCell (p := ⟨g, 5, none⟩) (.inl hg) v5).setCell (p := ⟨g, 6, none⟩) (.inl hg) v6).setCell (p := ⟨g, 7, none⟩) (.inl hg) v7).setCell (p := ⟨g, 8, none⟩) (.inl hg) v8
structure SgR (base pb : Nat) (its : List It) (sz : Nat) (vd : Value) (AL : Option Addr) (cL : Nat) (pt : Nat) (P : Array Value) (row : List Value) (w wx : World) : Prop where
 blkX : Blk wx (pt + 2) 52 row.toArray
 blkP : Blk wx pt 80 P
 blkR : ∃ R : Array Value, R.size = 9 /\ Blk wx (pt + 1) 52 R
 pin : PIn base pb its sz vd AL cL wx
 tf : TF XQ base w wx
theorem SgR.tf_ {base pb : Nat} {its : List It} {sz : Nat} {vd : Value} {AL : Option Addr} {cL : Nat} {pt : Nat} {P : Array Value} {row : List Value} {w wx w3 : World} (h : SgR base pb its sz vd AL cL pt P row w wx) (ht : TF XQ base wx w3) (hp : PIn base pb its sz vd AL cL w3) : SgR base pb its sz vd AL cL pt P row w w3 :=
 ⟨h.blkX.tf ht rfl, h.blkP.tf ht rfl, h.blkR.imp fun _ h => ⟨h.1, h.2.tf ht rfl⟩, hp, h.tf.trans ht⟩
theorem SgR.drew {base pb : Nat} {its : List It} {sz : Nat} {vd : Value} {AL : Option Addr} {cL : Nat} {pt : Nat} {P : Array Value} {row : List Value} {w wx : World} (h : SgR base pb its sz vd AL cL pt P row w wx) : SgR base pb its sz vd AL cL pt P row w wx.drew := h.tf_ TF.refl.drew (h.pin.below (Below.refl _ _).drew)
theorem SgR.putR {base pb : Nat} {its : List It} {sz : Nat} {vd : Value} {AL : Option Addr} {cL : Nat} {pt : Nat} {P : Array Value} {row : List Value} {w wx : World} (h : SgR base pb its sz vd AL cL pt P row w wx) (hl : row.length = 9) (hw : w.heap.size <= pt + 1) : SgR base pb its sz vd AL cL pt P row w (wx.setCells (pt + 1) 0 row) /\ Blk (wx.setCells (pt + 1) 0 row) (pt + 1) 52 row.toArray := by
 obtain ⟨R, hR, hB⟩ := h.blkR
 have hB' := hB.put (vs := row) (by omega)
 exact ⟨⟨h.blkX.farC (by omega) _ _, h.blkP.farC (by omega) _ _, ⟨_, by simpa using hl, hB'⟩, h.pin.putC hB (by decide) _ _, h.tf.putC hw _ _⟩, hB'⟩
def SgSt (base pb : Nat) (its : List It) (sz : Nat) (vd : Value) (AL : Option Addr) (cL : Nat) (pt : Nat) (P : Array Value) (pl : Int) (w wx : World) : Prop := ∃ (k : Int) (nm : ByteArray) (A : Option Addr) (c : Nat) (cs : List Ca), Blk wx (pt + 2) 52 #[.int .i64 k, .string ⟨#[]⟩, .string nm, .slice A cs.length c, .slice none 0 0, .slice none 0 0, .int .i64 pl, .int .i64 0, .int .i64 0] /\ DtN 0 (pt + 3) wx (.slice A cs.length c) (.rows 2 (cs.map Ca.row)) /\ (∀ c ∈ cs, CaOk c) /\ cs.length <= 16 /\ (k = 2 ∨ k = 6 ∨ k = 7) /\ Blk wx pt 80 P /\ Blk wx (pt + 1) 52 #[.int .i64 0, .string ⟨#[]⟩, .string ⟨#[]⟩, .slice none 0 0, .slice none 0 0, .slice none 0 0, .int .i64 0, .int .i64 0, .int .i64 0] /\ PIn base pb its sz vd AL cL wx /\ TF XQ base w wx
def PSg (base pb : Nat) (its : List It) (sz : Nat) (vd : Value) (AL : Option Addr) (cL : Nat) (w : World) (e : Ending) (w' : World) : Prop := ∃ (k : Int) (nm : ByteArray) (A : Option Addr) (c : Nat) (cs : List Ca) (at_ : Int) (b : Bool) (sz' : Nat), e = .returned (.tuple #[.agg #[.int .i64 k, .string ⟨#[]⟩, .string nm, .slice A cs.length c, .slice none 0 0, .slice none 0 0, .int .i64 at_, .int .i64 0, .int .i64 0], .bool b]) /\ DtN 0 w.heap.size w' (.slice A cs.length c) (.rows 2 (cs.map Ca.row)) /\ (∀ c ∈ cs, CaOk c) /\ cs.length <= 16 /\ (b = true -> (k = 2 ∨ k = 6 ∨ k = 7) /\ sz' = sz + 1) /\ sz <= sz' /\ sz' <= 1024 /\ PIn base pb its sz' vd AL cL w' /\ TF XQ base w w'
theorem single_any (base pb : Nat) (its : List It) (sz : Nat) (vd : Value) (AL : Option Addr) (cL : Nat) (pw : Pw) (n : Nat) (hn : pw.ws.length = n) (h1n : 1 <= n) (A : Option Addr) (c : Nat) (w : World) (hsz : sz <= 1024) (h : PIn base pb its sz vd AL cL w) (hw : PwAt base pw A c w) : Calls Tryz.prog 45 #[.pointer (some ⟨pb, 0, none⟩), .agg #[.slice A n c, .string pw.hd, .int .i64 pw.pl]] w (PSg base pb its sz vd AL cL w) := by
 obtain ⟨ws, hd, pl⟩ := pw
 simp only at hn ⊢
 obtain ⟨W, hW⟩ := xE ((w.alloc (.cells #[.slice A n c, .string hd, .int .i64 pl] 80)).alloc (.cells #[.int .i64 0, .string ⟨#[]⟩, .string ⟨#[]⟩, .slice none 0 0, .slice none 0 0, .slice none 0 0, .int .i64 0, .int .i64 0, .int .i64 0] 52))
 have HS0 : Hid (Blk W w.heap.size 80 #[.slice A n c, .string hd, .int .i64 pl]) := hid (by rw [<- hW]; exact (Blk.new w _ _).alloc _)
 have HR0 : Hid (Blk W (w.heap.size + 1) 52 #[.int .i64 0, .string ⟨#[]⟩, .string ⟨#[]⟩, .slice none 0 0, .slice none 0 0, .slice none 0 0, .int .i64 0, .int .i64 0, .int .i64 0]) := hid (by rw [<- hW]; exact Blk.new_at _ _ (by simp) _ _)
 have hbw : Below w.heap.size w W := by rw [<- hW]; go_grown
 have HbW0 := hid hbw
 have Hn := hid hn
 have hbl := h.lt
 obtain ⟨pt, hpt⟩ := xE w.heap.size
 have hsz2 : W.heap.size = pt + 2 := by rw [<- hW, <- hpt]; simp
 have Hsz2 := hid hsz2
 clear hsz2
 rw [hpt] at HS0 HR0 hbl
 obtain ⟨⟨_, _, c2⟩, _⟩ := blk3_cells HS0.out
 go_enter Tryz.func45, Tryz.ntmps45
 go_upto_region 2 with fail
 clear hW c2
 obtain ⟨w0, hw0⟩ := xE (W.alloc (.cells #[.int .i64 0, .string ⟨#[]⟩, .string ⟨#[]⟩, .slice none 0 0, .slice none 0 0, .slice none 0 0, .int .i64 pl, .int .i64 0, .int .i64 0] 52))
 have hal : Below W.heap.size W w0 := by rw [<- hw0]; exact alloc_below _ _
 have hbw0 := hbw.trans (hal.mono hbw.size)
 have HbW := hid hbw0
 have HS := hid (HS0.out.below hal HS0.out.lt)
 have HR := hid (HR0.out.below hal HR0.out.lt)
 have HX : Hid (Blk w0 (pt + 2) 52 #[.int .i64 0, .string ⟨#[]⟩, .string ⟨#[]⟩, .slice none 0 0, .slice none 0 0, .slice none 0 0, .int .i64 pl, .int .i64 0, .int .i64 0]) := hid (by rw [<- hw0]; exact Blk.new_at _ _ Hsz2.out _ _)
 have HP := hid (h.below hbw0)
 have HWe := hid hw
 have HC := hid (fun a => count20_any base pb its sz vd AL cL a w0 HP.out hsz)
 have hlt3 := HX.out.lt
 rw [hw0]
 have hg2 := Hsz2.out
 rw [hg2]
 clear hw0 hal hbw0 hbw HbW0 HS0 HR0 h hw hn hg2
 obtain ⟨⟨_, _, c2⟩, _⟩ := blk3_cells HS.out
 go_upto_if 16 with (go_at_call 40; refine (HC.out _).mono ?_; rintro e w1 ⟨b, rfl, hp1, hb1, ht1⟩)
 clear c2
 have HS1 := hid (HS.out.tf ht1 rfl)
 have HR1 := hid (HR.out.tf ht1 rfl)
 have HX1 := hid (HX.out.tf ht1 rfl)
 have HP1 := hid hp1
 have HT1 := hid ((TF.of_below HbW.out).trans ht1)
 have hs1 := ht1.size
 clear HS HR HX HP HbW hp1 ht1 HC
 cases b
 ·obtain ⟨⟨d0, d1, d2, d3, d4, d5, d6, d7, d8⟩, _⟩ := blk9_cells HX1.out;obtain ⟨⟨i0, i1, i2, i3, i4, i5, i6, i7, i8⟩, g0, g1, g2, g3, g4, g5, g6, g7, g8⟩ := blk9_cells HR1.out;go_wp2_with fail
  (try simp only [Exit.inBlock, Exit.then]);refine rc1 (pt + 1) (blk9_put HR1.out) ?_;exact ⟨0, ⟨#[]⟩, none, 0, [], pl, false, sz, rfl, DtV.none_, (fun _ h => by cases h), Nat.zero_le _, (fun h => by cases h), Nat.le_refl _, hsz, HP1.out.node9 HR1.out, HT1.out.put9 (by omega)⟩
 have HP2 : Hid (PIn base pb its (sz + 1) vd AL cL w1) := hid HP1.out
 have hb2 := hb1 rfl
 clear HP1 hb1
 obtain ⟨⟨c0, _, _⟩, _⟩ := blk3_cells HS1.out
 go_upto_block 0 with fail
 clear c0
 go_cut [8] from 9 (fun ok wx => ∃ b : Bool, ok = .bool b /\ SgSt base pb its (sz + 1) vd AL cL pt #[.slice A n c, .string hd, .int .i64 pl] pl w wx)
 case first => as_aux_lemma =>
  have hA : A ≠ none := by
   rintro rfl;obtain ⟨ad, h, _⟩ := RowsV.get HWe.out.1 (k := 0) (by show 0 < ws.length; rw [Hn.out]; omega);cases h
  obtain ⟨ad, rfl⟩ : ∃ ad, A = some ad := by cases A with | none => exact absurd rfl hA | some a => exact ⟨a, rfl⟩
  obtain ⟨q1, hq1⟩ := xE (hd.toList == [116, 101, 109, 112, 108, 97, 116, 101]);cases q1
  ·obtain ⟨⟨_, c1, _⟩, _⟩ := blk3_cells HS1.out;go_upto_region 13 with fail
   clear c1;go_cut [53] from 9 (fun c wx => ∃ b : Bool, c = .bool b /\ (b = true -> 2 <= n /\ ∃ p0, ws[0]? = some p0 /\ p0.k = 3) /\ wx = w1)
   case first => as_aux_lemma =>
    have hrw := (HWe.out.tf HT1.out XD_XQ).1;have hl0 : 0 < ws.length := by rw [Hn.out]; omega
    obtain ⟨ad', hAd, _, _, hrow⟩ := RowsV.get hrw hl0;cases hAd;obtain ⟨p0, hp0⟩ := xE ws[0];have hw0 : ws[0]? = some p0 := by rw [List.getElem?_eq_getElem hl0, hp0]
    rw [hp0] at hrow;obtain ⟨k0, x0, pl0⟩ := p0;obtain ⟨i0, _, _⟩ := It.at_ hrow;have Hw0 := hid hw0;clear hw0;simp only [Nat.zero_mul, addr_zero] at i0;clear hrow hp0;obtain ⟨q3, hq3⟩ := xE (k0 == 3);by_cases hn2 : 1 < n
    ·have hn2i : (1 : Int) < (n : Int) := by omega
     have hl1 : 1 < ws.length := by rw [Hn.out]; omega
     obtain ⟨ad', hAd, _, _, hrow⟩ := RowsV.get hrw hl1;cases hAd;obtain ⟨p1, hp1⟩ := xE ws[1];rw [hp1] at hrow;obtain ⟨k1, x1, pl1⟩ := p1;obtain ⟨j0, j1, _⟩ := It.at_ hrow;have e0 : w1.cell? ⟨ad.block, ad.off + 3, none⟩ = some (.int .i64 k1) := by simpa [Addr.add, Nat.add_assoc] using j0
     have e1 : w1.cell? ⟨ad.block, ad.off + 3 + 1, none⟩ = some (.string x1) := by simpa [Addr.add, Nat.add_assoc] using j1
     have e2 : w1.cell? ⟨ad.block, ad.off + 4, none⟩ = some (.string x1) := by simpa [Addr.add, Nat.add_assoc] using j1
     simp only [Nat.one_mul] at j0 j1;clear hrow hp1 hrw;obtain ⟨q6, hq6⟩ := xE (k1 == 6);obtain ⟨q7, hq7⟩ := xE (x1.toList == [58, 61]);go_wp2_with fail
     all_goals (
      go_meet
      first
       | exact ⟨_, rfl, (fun h => absurd h (by decide)), rfl⟩
       | exact ⟨_, rfl, (fun _ => ⟨by omega, _, Hw0.out, by first | exact beq_iff_eq.1 (hq3.trans (by assumption)) | exact beq_iff_eq.1 hq3⟩), rfl⟩)
    have hn2i : ¬ ((1 : Int) < (n : Int)) := by omega
    clear hrw;go_wp2_with fail
    all_goals (
     go_meet;exact ⟨_, rfl, (fun h => by first | cases h | simp at h), rfl⟩)
   obtain ⟨b, rfl, hb2n, hwc⟩ := hcut;obtain rfl := hwc;cases b
   ·obtain ⟨⟨d0, _⟩, _, f0⟩ := (show _ /\ _ from ⟨(blk9_cells HX1.out).1, (blk9_cells HX1.out).2⟩)
    go_upto_region 7 with fail
    obtain ⟨w2, hw2⟩ := xE (wc.setCell ⟨pt + 2, 0, none⟩ (.int .i64 2));have HX2 : Hid (Blk w2 (pt + 2) 52 #[.int .i64 2, .string ⟨#[]⟩, .string ⟨#[]⟩, .slice none 0 0, .slice none 0 0, .slice none 0 0, .int .i64 pl, .int .i64 0, .int .i64 0]) := hid (by rw [<- hw2]; exact HX1.out.set_ 0 _);have HS2 : Hid (Blk w2 pt 80 #[.slice (some ad) n c, .string hd, .int .i64 pl]) := hid (by rw [<- hw2]; exact HS1.out.far (p := ⟨pt + 2, 0, none⟩) (by simp) _);have HR2 : Hid (Blk w2 (pt + 1) 52 #[.int .i64 0, .string ⟨#[]⟩, .string ⟨#[]⟩, .slice none 0 0, .slice none 0 0, .slice none 0 0, .int .i64 0, .int .i64 0, .int .i64 0]) := hid (by rw [<- hw2]; exact HR1.out.far (p := ⟨pt + 2, 0, none⟩) (by simp) _);have HP3 : Hid (PIn base pb its (sz + 1) vd AL cL w2) := hid (by rw [<- hw2]; exact HP2.out.set_ HX1.out (by decide) _);have HT2 : Hid (TF XQ base w w2) := hid (by rw [<- hw2]; exact HT1.out.setCell (p := ⟨pt + 2, 0, none⟩) (.inl (by show w.heap.size <= pt + 2; omega)) _);rw [hw2];clear hw2 HX1 HS1 HR1 HP2 HT1 d0 f0;have hz2 := HX2.out.lt;have HPp := hid (pipe20_any base pb its (sz + 1) vd AL cL ⟨ws, hd, pl⟩ n Hn.out (some ad) c 0 (Nat.zero_le _) w2 HP3.out (HWe.out.tf HT2.out XD_XQ) (by simp));obtain ⟨⟨c0, c1, c2⟩, _⟩ := blk3_cells HS2.out;go_wp2_with (go_at_call 58; refine HPp.out.mono ?_; rintro e w3 ⟨v, cs, b, rfl, hd3, hcs, hcl, hp3, ht3⟩; obtain ⟨Av, cv, rfl, _⟩ := DtV.slice hd3 (n := cs.length) (by simp); have HX3 := hid (HX2.out.tf ht3 rfl); have HS3 := hid (HS2.out.tf ht3 rfl); have HR3 := hid (HR2.out.tf ht3 rfl); have HD3 := hid hd3; have Hcs := hid hcs; have HP4 := hid hp3; have HT3 := hid (HT2.out.trans ht3); clear c0 c1 c2 hd3 hcs hp3 ht3; obtain ⟨⟨d0, d1, d2, d3, d4, d5, d6, d7, d8⟩, g0, g1, g2, g3, g4, g5, g6, g7, g8⟩ := blk9_cells HX3.out; clear d0 d1 d2 d4 d5 d6 d7 d8 g0 g1 g2 g4 g5 g6 g7 g8)
    go_meet;exact ⟨b, rfl, 2, ⟨#[]⟩, Av, cv, cs, HX3.out.set_ 3 _, DtN.far (p := ⟨pt + 2, 3, none⟩) (HD3.out.up (Nat.le_refl _) (by show pt + 3 <= w2.heap.size; omega)) (Nat.zero_le _) (Nat.lt_succ_self _) _, Hcs.out, hcl, .inl rfl, HS3.out.far (p := ⟨pt + 2, 3, none⟩) (by simp) _, HR3.out.far (p := ⟨pt + 2, 3, none⟩) (by simp) _, HP4.out.set_ HX3.out (by decide) _, HT3.out.setCell (p := ⟨pt + 2, 3, none⟩) (.inl (by show w.heap.size <= pt + 2; omega)) _⟩
   obtain ⟨hn2, p0, hp0, hk3⟩ := hb2n rfl;obtain ⟨k0, x0, pl0⟩ := p0;simp only at hk3;have hl0 : 0 < ws.length := by rw [Hn.out]; omega
   have hok0 := HWe.out.2.1 _ (List.mem_of_getElem? hp0);have hx0 : 1 <= x0.size := hok0.2 hk3;have hx1 : x0.size <= 1048576 := hok0.1;have hx0i : (1 : Int) <= (x0.size : Int) := by omega
   obtain ⟨ad', hAd, _, _, hrow⟩ := RowsV.get (HWe.out.tf HT1.out XD_XQ).1 hl0;cases hAd;have hp1 : ws[0] = ⟨k0, x0, pl0⟩ := by rw [List.getElem?_eq_getElem hl0] at hp0; exact Option.some.inj hp0
   rw [show ((Pw.mk ws hd pl).ws[0]'hl0) = ws[0] from rfl, hp1] at hrow;obtain ⟨_, i1, _⟩ := It.at_ hrow;simp only [Nat.zero_mul, addr_zero] at i1;have i1' : wc.cell? ⟨ad.block, ad.off + 1, none⟩ = some (.string x0) := by simpa [Addr.add] using i1
   clear hrow hb2n hok0 hp0 hp1 hk3;obtain ⟨⟨d0, d1, d2, d3, d4, d5, d6, d7, d8⟩, f0, f1, f2, f3, f4, f5, f6, f7, f8⟩ := blk9_cells HX1.out;clear d1 d3 d4 d5 d6 d7 d8 f1 f3 f4 f5 f6 f7 f8;go_upto_region 14 with fail
   go_cut [] from 9 (fun wx => ∃ nm : ByteArray, nm.size <= 1048576 /\ Blk wx (pt + 2) 52 #[.int .i64 7, .string ⟨#[]⟩, .string nm, .slice none 0 0, .slice none 0 0, .slice none 0 0, .int .i64 pl, .int .i64 0, .int .i64 0] /\ Blk wx pt 80 #[.slice (some ad) n c, .string hd, .int .i64 pl] /\ Blk wx (pt + 1) 52 #[.int .i64 0, .string ⟨#[]⟩, .string ⟨#[]⟩, .slice none 0 0, .slice none 0 0, .slice none 0 0, .int .i64 0, .int .i64 0, .int .i64 0] /\ PIn base pb its (sz + 1) vd AL cL wx /\ TF XQ base w wx)
   case first => as_aux_lemma =>
    have hxe : (x0.extract 1 x0.size).size <= 1048576 := by rw [ByteArray.size_extract]; omega
    have X0 := HX1.out.set_ 0 (.int .i64 7);go_region_with fail
    all_goals (
     go_wp2_with fail
     go_meet;refine ⟨_, hxe, ?_, ?_, ?_, ?_, ?_⟩
     ·exact (X0.set_ 2 _).drew
     ·exact ((((HS1.out.far (p := ⟨pt + 2, 0, none⟩) (by simp) _).far (p := ⟨pt + 2, 2, none⟩) (by simp) _))).drew
     ·exact ((((HR1.out.far (p := ⟨pt + 2, 0, none⟩) (by simp) _).far (p := ⟨pt + 2, 2, none⟩) (by simp) _))).drew
     ·exact ((HP2.out.set_ HX1.out (by decide) _).set_ X0 (by decide) _)
     exact ((HT1.out.setCell (p := ⟨pt + 2, 0, none⟩) (.inl (by show w.heap.size <= pt + 2; omega)) _).setCell (p := ⟨pt + 2, 2, none⟩) (.inl (by show w.heap.size <= pt + 2; omega)) _).drew)
   obtain ⟨nm, hnm, hX, hS, hR, hP, hT⟩ := hcut;obtain ⟨w2, rfl⟩ := xS wc;have HX2 := hid hX;have HS2 := hid hS;have HR2 := hid hR;have HP3 := hid hP;have HT2 := hid hT;clear hX hS hR hP hT HX1 HS1 HR1 HP2 HT1 d0 d2 f0 f2 i1 i1';have HNm := hid (fun W => name_any nm W (by omega));obtain ⟨⟨_, _, d2, _⟩, _⟩ := blk9_cells HX2.out;go_upto_if 88 with (go_at_call 51; refine (HNm.out _).mono ?_; rintro e w9 ⟨bn, rfl, hw9⟩; obtain rfl := hw9)
   clear d2;cases bn
   ·have HF := hid (fun b Wx hp => fail20_any base pb its (sz + 1) vd AL cL pl b Wx hp);go_upto_region 16 with fail
    have h0 : SgR base pb its (sz + 1) vd AL cL pt #[.slice (some ad) n c, .string hd, .int .i64 pl] [.int .i64 7, .string ⟨#[]⟩, .string nm, .slice none 0 0, .slice none 0 0, .slice none 0 0, .int .i64 pl, .int .i64 0, .int .i64 0] w w9 := ⟨HX2.out, HS2.out, ⟨_, rfl, HR2.out⟩, HP3.out, HT2.out⟩
    refine wp_region_held_drew (S := fun wy => SgR base pb its (sz + 1) vd AL cL pt #[.slice (some ad) n c, .string hd, .int .i64 pl] [.int .i64 7, .string ⟨#[]⟩, .string nm, .slice none 0 0, .slice none 0 0, .slice none 0 0, .int .i64 pl, .int .i64 0, .int .i64 0] w wy) (by kernel_rfl) h0.drew (fun hHeld => ?_);refine tq 0 89 _ rfl (yl _ (fun wy h => h.blkX)) hHeld ?_;refine tk 1 90 (.pointer (some ⟨pb, 0, none⟩)) rfl hHeld ?_;refine tk 2 91 (.pointer (some ⟨pt, 2, none⟩)) rfl hHeld ?_;refine tq 3 92 (.int .i64 pl) rfl (yc pt 2 fun _ h => (blk3_cells h.blkP).1.2.2) hHeld ?_;refine wpAnyH_ready (rs := [4]) (by kernel_rfl) (by simp) ?_;refine callH 4 (some 93) rfl rfl (by rfl) (args := #[.pointer (some ⟨pb, 0, none⟩), .int .i64 pl, .int .i64 33]) (by go_simp) (HF.out _ _ hHeld.pin) (fun e w3 hR => ?_) AllReadyH.nil;obtain ⟨rfl, hp3, ht3⟩ := hR;have hHeld3 := hHeld.tf_ ht3 hp3;refine ⟨_, rfl, hHeld3, ?_⟩;clear hHeld;simp only [Act.put, aQ, aZ, aC];refine wpAnyH_ready (rs := [5]) (by kernel_rfl) (by simp) ?_;obtain ⟨R, hR, hBR⟩ := hHeld3.blkR;refine storeH 5 rfl rfl (by rfl) _ _ rfl rfl rfl hBR hR rfl uNode ?_ AllReadyH.nil;obtain ⟨hHeld4, hR2⟩ := hHeld3.putR rfl (by have := hbl; omega);refine ⟨hHeld4, ?_⟩;refine tk 6 5 (.bool false) rfl hHeld4 ?_;refine xh ?_;refine rc1 (pt + 1) hR2 ?_;exact ⟨7, nm, none, 0, [], pl, false, sz + 1, rfl, DtV.none_, (fun _ h => by cases h), Nat.zero_le _, (fun h => by cases h), by omega, hb2, hHeld4.pin, hHeld4.tf⟩
   go_upto_region 17 with fail
   have hz2 := HX2.out.lt;have HPp := hid (pipe20_any base pb its (sz + 1) vd AL cL ⟨ws, hd, pl⟩ n Hn.out (some ad) c 2 (hn2) w9 HP3.out (HWe.out.tf HT2.out XD_XQ) (by simp));obtain ⟨⟨c0, c1, c2⟩, _⟩ := blk3_cells HS2.out;go_wp2_with (go_at_call 58; refine HPp.out.mono ?_; rintro e w3 ⟨v, cs, b, rfl, hd3, hcs, hcl, hp3, ht3⟩; obtain ⟨Av, cv, rfl, _⟩ := DtV.slice hd3 (n := cs.length) (by simp); have HX3 := hid (HX2.out.tf ht3 rfl); have HS3 := hid (HS2.out.tf ht3 rfl); have HR3 := hid (HR2.out.tf ht3 rfl); have HD3 := hid hd3; have Hcs := hid hcs; have HP4 := hid hp3; have HT3 := hid (HT2.out.trans ht3); clear c0 c1 c2 hd3 hcs hp3 ht3; obtain ⟨⟨d0, d1, d2, d3, d4, d5, d6, d7, d8⟩, g0, g1, g2, g3, g4, g5, g6, g7, g8⟩ := blk9_cells HX3.out; clear d0 d1 d2 d4 d5 d6 d7 d8 g0 g1 g2 g4 g5 g6 g7 g8)
   go_meet;exact ⟨b, rfl, 7, nm, Av, cv, cs, HX3.out.set_ 3 _, DtN.far (p := ⟨pt + 2, 3, none⟩) (HD3.out.up (Nat.le_refl _) (by show pt + 3 <= w9.heap.size; omega)) (Nat.zero_le _) (Nat.lt_succ_self _) _, Hcs.out, hcl, .inr (.inr rfl), HS3.out.far (p := ⟨pt + 2, 3, none⟩) (by simp) _, HR3.out.far (p := ⟨pt + 2, 3, none⟩) (by simp) _, HP4.out.set_ HX3.out (by decide) _, HT3.out.setCell (p := ⟨pt + 2, 3, none⟩) (.inl (by show w.heap.size <= pt + 2; omega)) _⟩
  obtain ⟨⟨_, c1, _⟩, _⟩ := blk3_cells HS1.out;obtain ⟨⟨d0, _⟩, _, f0⟩ := (show _ /\ _ from ⟨(blk9_cells HX1.out).1, (blk9_cells HX1.out).2⟩)
  go_upto_region 10 with fail
  obtain ⟨w2, hw2⟩ := xE (w1.setCell ⟨pt + 2, 0, none⟩ (.int .i64 6));have HX2 : Hid (Blk w2 (pt + 2) 52 #[.int .i64 6, .string ⟨#[]⟩, .string ⟨#[]⟩, .slice none 0 0, .slice none 0 0, .slice none 0 0, .int .i64 pl, .int .i64 0, .int .i64 0]) := hid (by rw [<- hw2]; exact HX1.out.set_ 0 _);have HS2 : Hid (Blk w2 pt 80 #[.slice (some ad) n c, .string hd, .int .i64 pl]) := hid (by rw [<- hw2]; exact HS1.out.far (p := ⟨pt + 2, 0, none⟩) (by simp) _);have HR2 : Hid (Blk w2 (pt + 1) 52 #[.int .i64 0, .string ⟨#[]⟩, .string ⟨#[]⟩, .slice none 0 0, .slice none 0 0, .slice none 0 0, .int .i64 0, .int .i64 0, .int .i64 0]) := hid (by rw [<- hw2]; exact HR1.out.far (p := ⟨pt + 2, 0, none⟩) (by simp) _);have HP3 : Hid (PIn base pb its (sz + 1) vd AL cL w2) := hid (by rw [<- hw2]; exact HP2.out.set_ HX1.out (by decide) _);have HT2 : Hid (TF XQ base w w2) := hid (by rw [<- hw2]; exact HT1.out.setCell (p := ⟨pt + 2, 0, none⟩) (.inl (by show w.heap.size <= pt + 2; omega)) _);rw [hw2];clear hw2 HX1 HS1 HR1 HP2 HT1 d0 f0 c1;have HPc := hid (called_any base pb its (sz + 1) vd AL cL ⟨ws, hd, pl⟩ n Hn.out (some ad) c w2 HP3.out (HWe.out.tf HT2.out XD_XQ));have hz2 := HX2.out.lt;obtain ⟨⟨c0, c1, c2⟩, _⟩ := blk3_cells HS2.out;go_upto_region 11 with (go_at_call 57; refine HPc.out.mono ?_; rintro e w3 ⟨x5, b, rfl, hbx, hp3, ht3⟩; have HX3 := hid (HX2.out.tf ht3 rfl); have HS3 := hid (HS2.out.tf ht3 rfl); have HR3 := hid (HR2.out.tf ht3 rfl); have HP4 := hid hp3; have HT3 := hid (HT2.out.trans ht3); clear c0 c1 c2 hp3 ht3; obtain ⟨⟨d0, d1, d2, d3, d4, d5, d6, d7, d8⟩, g0, g1, g2, g3, g4, g5, g6, g7, g8⟩ := blk9_cells HX3.out; clear d0 d1 d3 d4 d5 d6 d7 d8 g0 g1 g3 g4 g5 g6 g7 g8)
  clear HX2 HS2 HR2 HP3 HT2 HPc hz2;obtain ⟨w2, hw2⟩ := xE (w3.setCell ⟨pt + 2, 2, none⟩ (.string x5));have HX2 : Hid (Blk w2 (pt + 2) 52 #[.int .i64 6, .string ⟨#[]⟩, .string x5, .slice none 0 0, .slice none 0 0, .slice none 0 0, .int .i64 pl, .int .i64 0, .int .i64 0]) := hid (by rw [<- hw2]; exact HX3.out.set_ 2 _);have HS2 : Hid (Blk w2 pt 80 #[.slice (some ad) n c, .string hd, .int .i64 pl]) := hid (by rw [<- hw2]; exact HS3.out.far (p := ⟨pt + 2, 2, none⟩) (by simp) _);have HR2 : Hid (Blk w2 (pt + 1) 52 #[.int .i64 0, .string ⟨#[]⟩, .string ⟨#[]⟩, .slice none 0 0, .slice none 0 0, .slice none 0 0, .int .i64 0, .int .i64 0, .int .i64 0]) := hid (by rw [<- hw2]; exact HR3.out.far (p := ⟨pt + 2, 2, none⟩) (by simp) _);have HP3 : Hid (PIn base pb its (sz + 1) vd AL cL w2) := hid (by rw [<- hw2]; exact HP4.out.set_ HX3.out (by decide) _);have HT2 : Hid (TF XQ base w w2) := hid (by rw [<- hw2]; exact HT3.out.setCell (p := ⟨pt + 2, 2, none⟩) (.inl (by show w.heap.size <= pt + 2; omega)) _);rw [hw2];clear hw2 HX3 HS3 HR3 HP4 HT3 d2 g2;cases b
  ·go_wp2_with fail
   go_meet;exact ⟨false, rfl, 6, x5, none, 0, [], HX2.out, DtV.none_, (fun _ h => by cases h), Nat.zero_le _, .inr (.inl rfl), HS2.out, HR2.out, HP3.out, HT2.out⟩
  have hn2 : 2 <= n := by have h5 : 2 <= ws.length := (hbx rfl).2; have := Hn.out; omega
  clear hbx;by_cases hn3 : 2 < n
  ·have hn3i : (2 : Int) < (n : Int) := by omega
   go_upto_region 12 with fail
   have hz2 := HX2.out.lt;have HPp := hid (pipe20_any base pb its (sz + 1) vd AL cL ⟨ws, hd, pl⟩ n Hn.out (some ad) c 2 (hn2) w2 HP3.out (HWe.out.tf HT2.out XD_XQ) (by simp));obtain ⟨⟨c0, c1, c2⟩, _⟩ := blk3_cells HS2.out;go_wp2_with (go_at_call 58; refine HPp.out.mono ?_; rintro e w3 ⟨v, cs, b, rfl, hd3, hcs, hcl, hp3, ht3⟩; obtain ⟨Av, cv, rfl, _⟩ := DtV.slice hd3 (n := cs.length) (by simp); have HX3 := hid (HX2.out.tf ht3 rfl); have HS3 := hid (HS2.out.tf ht3 rfl); have HR3 := hid (HR2.out.tf ht3 rfl); have HD3 := hid hd3; have Hcs := hid hcs; have HP4 := hid hp3; have HT3 := hid (HT2.out.trans ht3); clear c0 c1 c2 hd3 hcs hp3 ht3; obtain ⟨⟨d0, d1, d2, d3, d4, d5, d6, d7, d8⟩, g0, g1, g2, g3, g4, g5, g6, g7, g8⟩ := blk9_cells HX3.out; clear d0 d1 d2 d4 d5 d6 d7 d8 g0 g1 g2 g4 g5 g6 g7 g8)
   go_meet;exact ⟨b, rfl, 6, x5, Av, cv, cs, HX3.out.set_ 3 _, DtN.far (p := ⟨pt + 2, 3, none⟩) (HD3.out.up (Nat.le_refl _) (by show pt + 3 <= w2.heap.size; omega)) (Nat.zero_le _) (Nat.lt_succ_self _) _, Hcs.out, hcl, .inr (.inl rfl), HS3.out.far (p := ⟨pt + 2, 3, none⟩) (by simp) _, HR3.out.far (p := ⟨pt + 2, 3, none⟩) (by simp) _, HP4.out.set_ HX3.out (by decide) _, HT3.out.setCell (p := ⟨pt + 2, 3, none⟩) (.inl (by show w.heap.size <= pt + 2; omega)) _⟩
  have hn3i : ¬ ((2 : Int) < (n : Int)) := by omega
  go_wp2_with fail
  go_meet;exact ⟨true, rfl, 6, x5, none, 0, [], HX2.out, DtV.none_, (fun _ h => by cases h), Nat.zero_le _, .inr (.inl rfl), HS2.out, HR2.out, HP3.out, HT2.out⟩
 obtain ⟨b, rfl, k, nm, Av, cv, cs, hX, hD, hcs, hcl, hk, hS, hR, hP, hT⟩ := hcut
 have HD := hid hD
 have HX := hid hX
 have HR := hid hR
 have hD3 : DtN 0 w.heap.size wc (.slice Av cs.length cv) (.rows 2 (cs.map Ca.row)) := hD.up (Nat.le_refl _) (by omega)
 have Hcs := hid hcs
 have HP := hid hP
 have HT := hid hT
 clear hX hD hcs hS hR hP hT hD3
 obtain ⟨ncs, hncs⟩ := xE cs.length
 have Hncs := hid hncs
 rw [hncs] at HX HD hcl
 clear hncs
 obtain ⟨⟨d0, d1, d2, d3, d4, d5, d6, d7, d8⟩, _⟩ := blk9_cells HX.out
 obtain ⟨⟨i0, i1, i2, i3, i4, i5, i6, i7, i8⟩, g0, g1, g2, g3, g4, g5, g6, g7, g8⟩ := blk9_cells HR.out
 go_wp2_with fail
 (try simp only [Exit.inBlock, Exit.then])
 refine rc1 (pt + 1) (blk9_put HR.out) ?_
 refine ⟨k, nm, Av, cv, cs, pl, b, sz + 1, by rw [Hncs.out]; rfl, ?_, Hcs.out, by rw [Hncs.out]; exact hcl, (fun _ => ⟨hk, rfl⟩), by omega, hb2, HP.out.node9 HR.out, HT.out.put9 (by omega)⟩
 rw [Hncs.out]
 exact DtN.up (dtn_put9 HD.out (Nat.zero_le _) (by omega)) (Nat.le_refl _) (by omega)
def Tn.txt : Tn -> ByteArray
 | .mk k x nm p b e a s u => x
theorem itT_drop (I : List It) (k : Nat) (h : k < I.length) : itT (I.drop k) = I[k].x.size + itT (I.drop (k + 1)) := by
 unfold itT
 rw [List.drop_eq_getElem_cons h, List.map_cons, List.sum_cons]
theorem itT_step (I : List It) : ∀ (n k : Nat), itT (I.drop (k + n)) <= itT (I.drop k)
 | 0, k => Nat.le_refl _
 | n + 1, k => by
  refine Nat.le_trans ?_ (itT_step I n k);by_cases h : k + n < I.length
  ·rw [itT_drop I (k + n) h]; exact Nat.le_add_left _ _
  rw [List.drop_of_length_le (i := k + (n + 1)) (by omega)]; exact Nat.zero_le _
theorem itT_le {I : List It} {k k' : Nat} (h : k <= k') : itT (I.drop k') <= itT (I.drop k) := by
 have := itT_step I (k' - k) k
 rwa [show k + (k' - k) = k' by omega] at this
def lenAt (w : World) (pb : Nat) : Nat := match w.cell? ⟨pb, 0, none⟩ with | some (.slice _ n _) => n | _ => 0
theorem PK.lenAt {base pb : Nat} {I : List It} {ad0 : Addr} {c0 k sz : Nat} {vd : Value} {w : World} (h : PK base pb I ad0 c0 k sz vd w) : lenAt w pb = I.length - k /\ k <= I.length := by
 obtain ⟨AL, cL, h1, h2⟩ := h
 refine ⟨?_, h2.2⟩
 unfold Go.Proofs.YtkcnmjdomipbjaaGreat.lenAt
 rw [h1.cells.1]
 simp
def DfE (base : Nat) (vd : Value) (ds : List Df) (xs : List Value) (out : Value) (w : World) : Prop := w.ownsRow base 75 2 vd ds.length xs /\ CellsV w (fun b => SD 0 base w b /\ out.ownBlock ≠ some b) xs (ds.map Df.row).flatten /\ ∀ d ∈ ds, tnsOk d.b /\ tnsNum d.b <= 1024
structure FlSt (base pb : Nat) (I : List It) (ad0 : Addr) (c0 pt k0 sz0 : Nat) (vd0 : Value) (deep m : Nat) (w : World) (k sz : Nat) (vd : Value) (wx : World) : Prop where
 pts : w.heap.size = pt
 k_le : k0 <= k
 sz_le : sz0 <= sz
 sz_max : sz <= 1024
 blkR : ∃ R : Array Value, R.size = 3 /\ Blk wx pt 80 R
 pk : PK base pb I ad0 c0 k sz vd wx
 tf : TF XP base w wx
 dp : 0 < deep -> vd = vd0 /\ TF XQ base w wx
structure NdSt (base pb : Nat) (I : List It) (ad0 : Addr) (c0 pt k0 sz0 : Nat) (vd0 : Value) (deep m : Nat) (w : World) (k sz : Nat) (vd : Value) (ts : List Tn) (out : Value) (wx : World) : Prop where
 fl : FlSt base pb I ad0 c0 pt k0 sz0 vd0 deep m w k sz vd wx
 own : OwnN 0 pt wx pt 52 9 out (tnRows ts)
 ok : tnsOk ts
 txt : ∀ t ∈ ts, t.txt.size + itT (I.drop k) <= 16384
 num : sz0 + tnsNum ts <= sz
 df : deep = 0 -> ∃ ds xs, DfE base vd ds xs out wx /\ ds.length <= m + k /\ 0 < ds.length
section
variable {base pb : Nat} {I : List It} {ad0 : Addr} {c0 pt k0 sz0 : Nat} {vd0 : Value} {deep m : Nat} {w : World} {k sz : Nat} {vd : Value} {ts : List Tn} {out : Value} {wx w3 : World} {ds : List Df} {xs : List Value}
theorem DfE.tq (h : DfE base vd ds xs out wx) (ht : TF XQ base wx w3) : DfE base vd ds xs out w3 :=
 ⟨own_tf h.1 ht, CellsV.keep ht.size (fun b hb hl => ⟨⟨hb.1.keep (hb.1.tf XD_XQ (Nat.zero_le _) hl ht), hb.2⟩, hb.1.tf XD_XQ (Nat.zero_le _) hl ht⟩) _ _ h.2.1, h.2.2⟩
theorem FlSt.lt (h : FlSt base pb I ad0 c0 pt k0 sz0 vd0 deep m w k sz vd wx) : pt < wx.heap.size := by
 obtain ⟨R, _, hB⟩ := h.blkR
 exact hB.lt
theorem FlSt.step (h : FlSt base pb I ad0 c0 pt k0 sz0 vd0 deep m w k sz vd wx) (ht : TF XQ base wx w3) {k' sz' : Nat} (hp : PK base pb I ad0 c0 k' sz' vd w3) (hk : k <= k') (hs : sz <= sz') (hm : sz' <= 1024) : FlSt base pb I ad0 c0 pt k0 sz0 vd0 deep m w k' sz' vd w3 :=
 ⟨h.pts, Nat.le_trans h.k_le hk, Nat.le_trans h.sz_le hs, hm, h.blkR.imp fun _ h => ⟨h.1, h.2.tf ht rfl⟩, hp, h.tf.trans ht.xp, fun hd => ⟨(h.dp hd).1, (h.dp hd).2.trans ht⟩⟩
theorem FlSt.stepP (h : FlSt base pb I ad0 c0 pt k0 sz0 vd0 deep m w k sz vd wx) (ht : TF XP base wx w3) {k' sz' : Nat} {vd' : Value} (hp : PK base pb I ad0 c0 k' sz' vd' w3) (hk : k <= k') (hs : sz <= sz') (hm : sz' <= 1024) (hd : deep = 0) : FlSt base pb I ad0 c0 pt k0 sz0 vd0 deep m w k' sz' vd' w3 :=
 ⟨h.pts, Nat.le_trans h.k_le hk, Nat.le_trans h.sz_le hs, hm, h.blkR.imp fun _ h => ⟨h.1, h.2.tf ht rfl⟩, hp, h.tf.trans ht, fun hd' => by omega⟩
theorem FlSt.drew (h : FlSt base pb I ad0 c0 pt k0 sz0 vd0 deep m w k sz vd wx) : FlSt base pb I ad0 c0 pt k0 sz0 vd0 deep m w k sz vd wx.drew := h.step (TF.of_below (Below.refl _ _).drew) h.pk.drew (Nat.le_refl _) (Nat.le_refl _) h.sz_max
theorem FlSt.fails (h : FlSt base pb I ad0 c0 pt k0 sz0 vd0 deep m w k sz vd wx) (ht : TF XQ base wx w3) (hp : PK base pb I ad0 c0 k sz vd w3) : FlSt base pb I ad0 c0 pt k0 sz0 vd0 deep m w k sz vd w3 := h.step ht hp (Nat.le_refl _) (Nat.le_refl _) h.sz_max
theorem FlSt.putR (h : FlSt base pb I ad0 c0 pt k0 sz0 vd0 deep m w k sz vd wx) {row : List Value} (hl : row.length = 3) : FlSt base pb I ad0 c0 pt k0 sz0 vd0 deep m w k sz vd (wx.setCells pt 0 row) /\ Blk (wx.setCells pt 0 row) pt 80 row.toArray := by
 obtain ⟨R, hR, hB⟩ := h.blkR
 have hpt := h.pts
 have hB' := hB.put (vs := row) (by omega)
 exact ⟨⟨h.pts, h.k_le, h.sz_le, h.sz_max, ⟨_, by simpa using hl, hB'⟩, h.pk.putC hB (by decide) _ _, h.tf.putC (by omega) _ _, fun hd => ⟨(h.dp hd).1, (h.dp hd).2.putC (by omega) _ _⟩⟩, hB'⟩
theorem FlSt.fail_ (h : FlSt base pb I ad0 c0 pt k0 sz0 vd0 deep m w k sz vd wx) (pw : Pw) (n : Nat) (hn : pw.ws.length = n) (B : Option Addr) (c2 : Nat) : PNd base pb I ad0 c0 k0 sz0 vd0 deep m w (.returned (.tuple #[.slice none 0 0, .agg #[.slice B n c2, .string pw.hd, .int .i64 pw.pl], .bool false])) wx := by
 subst hn
 exact ⟨none, 0, [], B, c2, pw, false, k, sz, vd, rfl, DtV.none_, by simp [tnsOk], (fun h => by cases h), h.k_le, h.sz_le, h.sz_max, h.pk, h.tf, h.dp, fun _ h => by cases h⟩
theorem NdSt.len (h : NdSt base pb I ad0 c0 pt k0 sz0 vd0 deep m w k sz vd ts out wx) : ts.length <= 1024 := by
 have := tnsNum_len ts
 have := h.num
 have := h.fl.sz_max
 omega
theorem NdSt.shape (h : NdSt base pb I ad0 c0 pt k0 sz0 vd0 deep m w k sz vd ts out wx) {n : Nat} (hn : ts.length = n) : ∃ A c, out = .slice A n c := h.own.shape (by rw [tnRows_len, hn])
theorem NdSt.step (h : NdSt base pb I ad0 c0 pt k0 sz0 vd0 deep m w k sz vd ts out wx) (ht : TF XQ base wx w3) {k' sz' : Nat} (hp : PK base pb I ad0 c0 k' sz' vd w3) (hk : k <= k') (hs : sz <= sz') (hm : sz' <= 1024) : NdSt base pb I ad0 c0 pt k0 sz0 vd0 deep m w k' sz' vd ts out w3 :=
 ⟨h.fl.step ht hp hk hs hm, h.own.tf ht XD_XQ (Nat.zero_le _) rfl, h.ok, fun t hm => Nat.le_trans (Nat.add_le_add_left (itT_le hk) _) (h.txt t hm), Nat.le_trans h.num hs, fun hd => by
  obtain ⟨ds, xs, h1, h2, h3⟩ := h.df hd;exact ⟨ds, xs, h1.tq ht, by omega, h3⟩⟩
theorem NdSt.below (h : NdSt base pb I ad0 c0 pt k0 sz0 vd0 deep m w k sz vd ts out wx) (hb : Below wx.heap.size wx w3) : NdSt base pb I ad0 c0 pt k0 sz0 vd0 deep m w k sz vd ts out w3 :=
 h.step (TF.of_below hb) (h.fl.pk.below hb) (Nat.le_refl _) (Nat.le_refl _) h.fl.sz_max
theorem NdSt.drew (h : NdSt base pb I ad0 c0 pt k0 sz0 vd0 deep m w k sz vd ts out wx) : NdSt base pb I ad0 c0 pt k0 sz0 vd0 deep m w k sz vd ts out wx.drew := h.below (Below.refl _ _).drew
theorem NdSt.stepD (h : NdSt base pb I ad0 c0 pt k0 sz0 vd0 deep m w k sz vd ts out wx) (ht : TF XP base wx w3) {k' sz' : Nat} {vd' : Value} (hp : PK base pb I ad0 c0 k' sz' vd' w3) (hk : k <= k') (hs : sz <= sz') (hm : sz' <= 1024) (hd : deep = 0) (hm2 : ds.length + 1 <= m + k') (hD : DfE base vd ds xs out wx) {x : ByteArray} {bs : List Tn} {A : Option Addr} {c : Nat} (ho : w3.ownsRow base 75 2 vd' (ds.length + 1) (xs ++ [.string x, .slice A bs.length c])) (hb : DtN 0 wx.heap.size w3 (.slice A bs.length c) (.rows 9 (tnRows bs))) (hok : tnsOk bs) (hn : tnsNum bs <= 1024) : NdSt base pb I ad0 c0 pt k0 sz0 vd0 deep m w k' sz' vd' ts out w3 := by
 have hsz := ht.size
 have hbs := h.fl.pk.lt
 refine ⟨h.fl.stepP ht hp (by omega) hs hm hd, h.own.tf ht XD_XP (Nat.zero_le _) rfl, h.ok, fun t hm => Nat.le_trans (Nat.add_le_add_left (itT_le (by omega)) _) (h.txt t hm), Nat.le_trans h.num hs, fun _ => ⟨ds ++ [Df.mk x bs], xs ++ [.string x, .slice A bs.length c], ⟨by rw [List.length_append]; exact ho, ?_, fun d hd => ?_⟩, by rw [List.length_append]; exact hm2, by simp⟩⟩
 ·rw [List.map_append, List.flatten_append];refine CellsV.app ?_ ?_
  ·rw [List.map_cons, List.map_nil, List.flatten_cons, List.flatten_nil, List.append_nil];exact ⟨_, _, rfl, DtV.str, _, _, rfl, DtV.to hb fun b hb _ => ⟨hb.up (Nat.le_refl _) (by omega), fun e => by
    have := (h.own.lt b e).2;rcases hb with hb | ⟨hb, _⟩ <;> omega⟩, rfl⟩
  exact CellsV.keep hsz (fun b hb hl => ⟨⟨hb.1.keep (hb.1.tf XD_XP (Nat.zero_le _) hl ht), hb.2⟩, hb.1.tf XD_XP (Nat.zero_le _) hl ht⟩) _ _ hD.2.1
 rcases List.mem_append.1 hd with h' | h'
 ·exact hD.2.2 d h'
 rw [List.mem_singleton.1 h']; exact ⟨hok, hn⟩
theorem NdSt.pop (h : NdSt base pb I ad0 c0 pt k0 sz0 vd0 deep m w k sz vd ts out wx) (hk : k < I.length) {A : Option Addr} {c n : Nat} (hA : k + 1 < I.length -> A = some (ad0.add ((k + 1) * 3)) /\ c + (k + 1) = c0) (hn : (I.drop (k + 1)).length = n) : NdSt base pb I ad0 c0 pt k0 sz0 vd0 deep m w (k + 1) sz vd ts out (wx.setCell ⟨pb, 0, none⟩ (.slice A n c)) := by
 subst hn
 obtain ⟨AL, cL, h1, h2⟩ := h.fl.pk
 have hlt := h1.lt
 obtain ⟨cs, hB⟩ := h1.blk
 exact h.step (TF.refl.setCell (p := ⟨pb, 0, none⟩) (hB.mayT rfl hlt.1) _) ⟨A, c, h1.pieces _ A c, hA, hk⟩ (Nat.le_succ _) (Nat.le_refl _) h.fl.sz_max
theorem NdSt.putR (h : NdSt base pb I ad0 c0 pt k0 sz0 vd0 deep m w k sz vd ts out wx) {row : List Value} (hl : row.length = 3) : NdSt base pb I ad0 c0 pt k0 sz0 vd0 deep m w k sz vd ts out (wx.setCells pt 0 row) /\ Blk (wx.setCells pt 0 row) pt 80 row.toArray := by
 obtain ⟨R, hR, hB⟩ := h.fl.blkR
 have hSD : ∀ {lo b}, SD 0 lo wx b -> b ≠ pt := fun {lo b} hb e => by
  subst e;rcases hb with hb | ⟨_, cs, t, fr, e1, e2⟩
  ·omega
  unfold Blk at hB;rw [hB] at e1;injection e1 with e1
  injection e1 with _ e3
  rw [<- e3] at e2; cases e2
 have hne : ∀ b cs t, wx.heap[b]? = some (.cells cs t (0, 0)) -> t ≠ 80 -> b ≠ pt := fun b cs t hb ht e => by subst e; exact Blk.ne_ hb hB ht rfl
 refine ⟨⟨(h.fl.putR hl).1, h.own.stay (Nat.le_of_eq (setCells_size _ _ _).symm) (fun g cur _ hc => setCells_far _ _ _ (hne g cur _ hc (by decide))) fun b hS _ => setCells_far _ _ _ (hSD hS), h.ok, h.txt, h.num, fun hd => ?_⟩, (h.fl.putR hl).2⟩
 obtain ⟨ds, xs, h1, h2, h3⟩ := h.df hd
 exact ⟨ds, xs, ⟨own_same h1.1 fun g cur _ hc => setCells_far _ _ _ (hne g cur _ hc (by decide)), CellsV.keep (Nat.le_of_eq (setCells_size _ _ _).symm) (fun b hb _ => ⟨⟨hb.1.keep (setCells_far _ _ _ (hSD hb.1)), hb.2⟩, setCells_far _ _ _ (hSD hb.1)⟩) _ _ h1.2.1, h1.2.2⟩, h2, h3⟩
theorem NdSt.done_ (h : NdSt base pb I ad0 c0 pt k0 sz0 vd0 deep m w k sz vd ts out wx) (pw : Pw) (n : Nat) (hn : pw.ws.length = n) (B : Option Addr) (c2 : Nat) (hw : PwAt pt pw B c2 wx) : PNd base pb I ad0 c0 k0 sz0 vd0 deep m w (.returned (.tuple #[out, .agg #[.slice B n c2, .string pw.hd, .int .i64 pw.pl], .bool true])) wx := by
 subst hn
 obtain ⟨A, c, e⟩ := h.shape rfl
 have hd := h.own.dt rfl (Nat.le_refl _)
 rw [e] at hd ⊢
 have hp := h.fl.pts
 refine ⟨A, c, ts, B, c2, pw, true, k, sz, vd, rfl, by rw [hp]; exact hd, h.ok, (fun _ => ⟨h.num, by rw [hp]; exact hw⟩), h.fl.k_le, h.fl.sz_le, h.fl.sz_max, h.fl.pk, h.fl.tf, h.fl.dp, fun hd _ => ?_⟩
 obtain ⟨ds, xs, h1, h2, h3⟩ := h.df hd
 refine ⟨ds, ⟨⟨xs, by rw [List.length_map]; exact h1.1, h1.2.1.to fun b hb _ => ⟨hb.1, fun e => ?_⟩, fun r hr => ?_⟩, h1.2.2⟩, h3⟩
 ·obtain ⟨cs, hc⟩ := own_block h1.1 b e;rcases hb.1 with h0 | ⟨_, cs', t', fr, e1, e2⟩
  ·omega
  rw [hc] at e1;injection e1 with e1
  injection e1 with _ e3
  rw [<- e3] at e2; cases e2
 obtain ⟨d, _, rfl⟩ := List.mem_map.1 hr
 rfl
theorem NdSt.snoc (h : NdSt base pb I ad0 c0 pt k0 sz0 vd0 deep m w k sz vd ts out wx) {t : Tn} {v' : Value} {w4 : World} (ho : OwnN 0 pt w4 pt 52 9 v' (tnRows ts ++ [t.row])) (hok : t.ok) (ht : t.txt.size + itT (I.drop k) <= 16384) (hn : sz0 + tnsNum ts + t.num <= sz) (hv : v'.ownBlock = out.ownBlock ∨ ∃ g, v'.ownBlock = some g /\ wx.heap.size < g) (hg : wx.grownBy w4 out.ownBlock) : NdSt base pb I ad0 c0 pt k0 sz0 vd0 deep m w k sz vd (ts ++ [t]) v' w4 := by
 have hpt := h.fl.pts
 have hlo := fun g hg => (h.own.lt g hg).1
 have hB : ∀ b cs tt, wx.heap[b]? = some (.cells cs tt (0, 0)) -> tt ≠ 52 -> some b ≠ out.ownBlock := fun b cs tt hb ht e => by
  obtain ⟨cs', hc⟩ := h.own.typed b e.symm;exact Blk.ne_ hb hc ht rfl
 have hP : PK base pb I ad0 c0 k sz vd w4 := by
  obtain ⟨AL, cL, h1, h2⟩ := h.fl.pk;exact ⟨AL, cL, h1.grown h.own (by decide) hg, h2⟩
 have hf := h.fl
 refine ⟨⟨hpt, hf.k_le, hf.sz_le, hf.sz_max, hf.blkR.imp fun R hR => ⟨hR.1, Blk.grown hR.2 hg (hB _ _ _ hR.2 (by decide))⟩, hP, hf.tf.grown hg fun g hg => .inl (by rw [hpt]; exact hlo g hg), fun hd => ⟨(hf.dp hd).1, (hf.dp hd).2.grown hg fun g hg => .inl (by rw [hpt]; exact hlo g hg)⟩⟩, by rw [tnRows_snoc]; exact ho, tnsOk_snoc h.ok hok, fun q hq => ?_, by rw [tnsNum_snoc]; omega, fun hd => ?_⟩
 ·rcases List.mem_append.1 hq with h' | h'
  ·exact h.txt q h'
  rw [List.mem_singleton.1 h']; exact ht
 obtain ⟨ds, xs, h1, h2, h3⟩ := h.df hd
 refine ⟨ds, xs, ⟨own_same h1.1 fun g cur hg' hc => hg.block g (h1.1.lt g hg').2 (hB g cur _ hc (by decide)), CellsV.keep hg.size (fun b hb hl => ?_) _ _ h1.2.1, h1.2.2⟩, h2, h3⟩
 have e1 := hg.block b hl (fun e => hb.2 e.symm)
 refine ⟨⟨hb.1.keep e1, ?_⟩, e1⟩
 rcases hv with e | ⟨g, e, hgl⟩
 ·rw [e]; exact hb.2
 rw [e]; intro h; injection h; omega
end
structure BSt (base pb : Nat) (I : List It) (ad0 : Addr) (c0 pt k0 sz0 : Nat) (P : Array Value) (vd : Value) (w : World) (kd pl : Int) (q : Bool) (k sz : Nat) (cs : List Ca) (bs es : List Tn) (row : List Value) (wx : World) : Prop where
 pts : w.heap.size = pt
 vals : ∃ (Ap Ab Ae : Option Addr) (cp cb ce : Nat), row = [.int .i64 kd, .string ⟨#[]⟩, .string ⟨#[]⟩, .slice Ap cs.length cp, .slice Ab bs.length cb, .slice Ae es.length ce, .int .i64 pl, .int .i64 0, .int .i64 0] /\ DtN 0 (pt + 3) wx (.slice Ap cs.length cp) (.rows 2 (cs.map Ca.row)) /\ DtN 0 (pt + 3) wx (.slice Ab bs.length cb) (.rows 9 (tnRows bs)) /\ DtN 0 (pt + 3) wx (.slice Ae es.length ce) (.rows 9 (tnRows es))
 ok : (Tn.mk kd ⟨#[]⟩ ⟨#[]⟩ cs bs es pl 0 0).ok
 num : q = true -> sz0 + (Tn.mk kd ⟨#[]⟩ ⟨#[]⟩ cs bs es pl 0 0).num <= sz
 k_le : k0 <= k
 sz_le : sz0 <= sz
 sz_max : sz <= 1024
 blkX : Blk wx (pt + 2) 52 row.toArray
 blkP : Blk wx pt 80 P
 blkR : ∃ R : Array Value, R.size = 9 /\ Blk wx (pt + 1) 52 R
 pk : PK base pb I ad0 c0 k sz vd wx
 tf : TF XQ base w wx
section
variable {base pb : Nat} {I : List It} {ad0 : Addr} {c0 pt k0 sz0 : Nat} {P : Array Value} {vd : Value} {w : World} {kd pl : Int} {q : Bool} {k sz : Nat} {cs : List Ca} {bs es : List Tn} {row : List Value} {wx w3 : World}
theorem BSt.len (h : BSt base pb I ad0 c0 pt k0 sz0 P vd w kd pl q k sz cs bs es row wx) : row.length = 9 := by
 obtain ⟨_, _, _, _, _, _, e, _⟩ := h.vals
 subst e; rfl
theorem BSt.one (h : BSt base pb I ad0 c0 pt k0 sz0 P vd w kd pl q k sz cs bs es row wx) : row.all (·.oneCell') = true := by
 obtain ⟨_, _, _, _, _, _, e, _⟩ := h.vals
 subst e; rfl
theorem BSt.cell (h : BSt base pb I ad0 c0 pt k0 sz0 P vd w kd pl q k sz cs bs es row wx) (i : Nat) (hi : i < 9) : (∃ v, wx.cell? ⟨pt + 2, i, none⟩ = some v) /\ wx.frozen? ⟨pt + 2, i, none⟩ = false := by
 refine ⟨⟨row[i]'(by rw [h.len]; exact hi), ?_⟩, h.blkX.frozen i⟩
 rw [h.blkX.cell i]
 simp [h.len, hi]
theorem BSt.lt (h : BSt base pb I ad0 c0 pt k0 sz0 P vd w kd pl q k sz cs bs es row wx) : pt + 3 <= wx.heap.size := h.blkX.lt
theorem BSt.tf_ (h : BSt base pb I ad0 c0 pt k0 sz0 P vd w kd pl q k sz cs bs es row wx) (ht : TF XQ base wx w3) {k' sz' : Nat} (hp : PK base pb I ad0 c0 k' sz' vd w3) (hk : k <= k') (hs : sz <= sz') (hm : sz' <= 1024) : BSt base pb I ad0 c0 pt k0 sz0 P vd w kd pl q k' sz' cs bs es row w3 := by
 obtain ⟨Ap, Ab, Ae, cp, cb, ce, e, h1, h2, h3⟩ := h.vals
 exact ⟨h.pts, ⟨Ap, Ab, Ae, cp, cb, ce, e, h1.tf ht XD_XQ (Nat.zero_le _), h2.tf ht XD_XQ (Nat.zero_le _), h3.tf ht XD_XQ (Nat.zero_le _)⟩, h.ok, fun hq => Nat.le_trans (h.num hq) hs, Nat.le_trans h.k_le hk, Nat.le_trans h.sz_le hs, hm, h.blkX.tf ht rfl, h.blkP.tf ht rfl, h.blkR.imp fun _ h => ⟨h.1, h.2.tf ht rfl⟩, hp, h.tf.trans ht⟩
theorem BSt.below (h : BSt base pb I ad0 c0 pt k0 sz0 P vd w kd pl q k sz cs bs es row wx) (hb : Below wx.heap.size wx w3) : BSt base pb I ad0 c0 pt k0 sz0 P vd w kd pl q k sz cs bs es row w3 :=
 h.tf_ (TF.of_below hb) (h.pk.below hb) (Nat.le_refl _) (Nat.le_refl _) h.sz_max
theorem BSt.drew (h : BSt base pb I ad0 c0 pt k0 sz0 P vd w kd pl q k sz cs bs es row wx) : BSt base pb I ad0 c0 pt k0 sz0 P vd w kd pl q k sz cs bs es row wx.drew := h.below (Below.refl _ _).drew
theorem DtN.setT {lo : Nat} {v : Value} {d : Dt} {g i : Nat} {t : TypeId} {cs : Array Value} (h : DtN 0 lo w v d) (hB : Blk w g t cs) (h1 : dT t = false) (u : Value) : DtN 0 lo (w.setCell ⟨g, i, none⟩ u) v d := by
 refine DtV.keep (by simp) (fun b hb _ => ?_) d v h
 have e : (w.setCell ⟨g, i, none⟩ u).heap[b]? = w.heap[b]? := Below.heap_setCell w _ _ b (by
  rintro rfl;rcases hb with hb | ⟨_, cs', t', fr, e1, e2⟩
  ·omega
  unfold Blk at hB;rw [hB] at e1;injection e1 with e1
  injection e1 with _ e3
  rw [<- e3, h1] at e2; cases e2)
 exact ⟨hb.keep e, e⟩
theorem BSt.setE (h : BSt base pb I ad0 c0 pt k0 sz0 P vd w kd pl q k sz cs bs es row wx) {g i : Nat} {E : Array Value} (hB : Blk wx g 80 E) (hg : pt + 2 < g) (u : Value) : BSt base pb I ad0 c0 pt k0 sz0 P vd w kd pl q k sz cs bs es row (wx.setCell ⟨g, i, none⟩ u) := by
 obtain ⟨Ap, Ab, Ae, cp, cb, ce, e, h1, h2, h3⟩ := h.vals
 have hp := h.pts
 exact ⟨h.pts, ⟨Ap, Ab, Ae, cp, cb, ce, e, h1.setT hB rfl u, h2.setT hB rfl u, h3.setT hB rfl u⟩, h.ok, h.num, h.k_le, h.sz_le, h.sz_max, h.blkX.far (p := ⟨g, i, none⟩) (Nat.ne_of_lt hg) u, h.blkP.far (p := ⟨g, i, none⟩) (by show pt ≠ g; omega) u, (h.blkR.imp fun _ h => ⟨h.1, h.2.far (p := ⟨g, i, none⟩) (by show pt + 1 ≠ g; omega) u⟩), h.pk.set_ hB (by decide) u, h.tf.setCell (p := ⟨g, i, none⟩) (.inl (by show w.heap.size <= g; omega)) u⟩
theorem BSt.end3 (h : BSt base pb I ad0 c0 pt k0 sz0 P vd w kd pl q k sz cs bs es row wx) {g : Nat} {a0 a1 a2 v0 v1 v2 : Value} (hB : Blk wx g 80 #[a0, a1, a2]) (hg : pt + 2 < g) : BSt base pb I ad0 c0 pt k0 sz0 P vd w kd pl q k sz cs bs es row (((wx.setCell ⟨g, 0, none⟩ v0).setCell ⟨g, 1, none⟩ v1).setCell ⟨g, 2, none⟩ v2) :=
 ((h.setE (i := 0) hB hg v0).setE (i := 1) (hB.set_ 0 v0) hg v1).setE (i := 2) ((hB.set_ 0 v0).set_ 1 v1) hg v2
theorem dt_up {lo' : Nat} {v : Value} {d : Dt} (h : DtN 0 lo' wx v d) {lo : Nat} (hl : lo <= lo') : DtN 0 lo wx v d := h.up (Nat.le_refl _) hl
theorem BSt.pipe (h : BSt base pb I ad0 c0 pt k0 sz0 P vd w kd pl q k sz [] [] [] row wx) {A : Option Addr} {c : Nat} (hd : DtN 0 (pt + 3) wx (.slice A cs.length c) (.rows 2 (cs.map Ca.row))) (hok : ∀ c ∈ cs, CaOk c) (hl : cs.length <= 16) : ∃ row', BSt base pb I ad0 c0 pt k0 sz0 P vd w kd pl q k sz cs [] [] row' (wx.setCell ⟨pt + 2, 3, none⟩ (.slice A cs.length c)) := by
 obtain ⟨Ap, Ab, Ae, cp, cb, ce, e, h1, h2, h3⟩ := h.vals
 have hp := h.pts
 have hf : ∀ {v d}, DtN 0 (pt + 3) wx v d -> DtN 0 (pt + 3) (wx.setCell ⟨pt + 2, 3, none⟩ (.slice A cs.length c)) v d := fun h => h.far (p := ⟨pt + 2, 3, none⟩) (Nat.zero_le _) (by show pt + 2 < pt + 3; omega) _
 have hX := h.blkX.set_ 3 (.slice A cs.length c)
 rw [e] at hX
 refine ⟨_, h.pts, ⟨A, Ab, Ae, c, cb, ce, rfl, hf hd, hf h2, hf h3⟩, ⟨Nat.zero_le _, hok, hl, by simp [tnsOk], by simp [tnsOk]⟩, fun hq => by have := h.num hq; simpa [Tn.num] using this, h.k_le, h.sz_le, h.sz_max, hX, h.blkP.far (p := ⟨pt + 2, 3, none⟩) (by show pt ≠ pt + 2; omega) _, (h.blkR.imp fun _ h => ⟨h.1, h.2.far (p := ⟨pt + 2, 3, none⟩) (by show pt + 1 ≠ pt + 2; omega) _⟩), h.pk.set_ h.blkX (by decide) _, h.tf.setCell (p := ⟨pt + 2, 3, none⟩) (.inl (by show w.heap.size <= pt + 2; omega)) _⟩
theorem BSt.body (h : BSt base pb I ad0 c0 pt k0 sz0 P vd w kd pl q k sz cs [] [] row wx) {ts : List Tn} {q' : Bool} {k' sz' : Nat} {A : Option Addr} {c : Nat} (ht : TF XQ base wx w3) (hp : PK base pb I ad0 c0 k' sz' vd w3) (hk : k <= k') (hs : sz <= sz') (hm : sz' <= 1024) (hd : DtN 0 wx.heap.size w3 (.slice A ts.length c) (.rows 9 (tnRows ts))) (hok : tnsOk ts) (hq' : q' = true -> q = true) (hn : q' = true -> sz + tnsNum ts <= sz') : ∃ row', BSt base pb I ad0 c0 pt k0 sz0 P vd w kd pl q' k' sz' cs ts [] row' (w3.setCell ⟨pt + 2, 4, none⟩ (.slice A ts.length c)) := by
 have hlt := h.lt
 have h0 := h
 replace h := h.tf_ ht hp hk hs hm
 obtain ⟨Ap, Ab, Ae, cp, cb, ce, e, h1, h2, h3⟩ := h.vals
 have hpt := h.pts
 have hf : ∀ {v d}, DtN 0 (pt + 3) w3 v d -> DtN 0 (pt + 3) (w3.setCell ⟨pt + 2, 4, none⟩ (.slice A ts.length c)) v d := fun h => h.far (p := ⟨pt + 2, 4, none⟩) (Nat.zero_le _) (by show pt + 2 < pt + 3; omega) _
 have hX := h.blkX.set_ 4 (.slice A ts.length c)
 rw [e] at hX
 refine ⟨_, h.pts, ⟨Ap, A, Ae, cp, c, ce, rfl, hf h1, hf (dt_up hd hlt), hf h3⟩, ⟨Nat.zero_le _, h.ok.2.1, h.ok.2.2.1, hok, by simp [tnsOk]⟩, fun hq => ?_, h.k_le, h.sz_le, h.sz_max, hX, h.blkP.far (p := ⟨pt + 2, 4, none⟩) (by show pt ≠ pt + 2; omega) _, (h.blkR.imp fun _ h => ⟨h.1, h.2.far (p := ⟨pt + 2, 4, none⟩) (by show pt + 1 ≠ pt + 2; omega) _⟩), h.pk.set_ h.blkX (by decide) _, h.tf.setCell (p := ⟨pt + 2, 4, none⟩) (.inl (by show w.heap.size <= pt + 2; omega)) _⟩
 have e1 := h0.num (hq' hq)
 have e2 := hn hq
 rw [Tn.num] at e1 ⊢
 simp only [tnsNum] at e1 ⊢
 omega
theorem BSt.els (h : BSt base pb I ad0 c0 pt k0 sz0 P vd w kd pl q k sz cs bs [] row wx) {ts : List Tn} {q' : Bool} {k' sz' : Nat} {A : Option Addr} {c : Nat} (ht : TF XQ base wx w3) (hp : PK base pb I ad0 c0 k' sz' vd w3) (hk : k <= k') (hs : sz <= sz') (hm : sz' <= 1024) (hd : DtN 0 wx.heap.size w3 (.slice A ts.length c) (.rows 9 (tnRows ts))) (hok : tnsOk ts) (hq' : q' = true -> q = true) (hn : q' = true -> sz + tnsNum ts <= sz') : ∃ row', BSt base pb I ad0 c0 pt k0 sz0 P vd w kd pl q' k' sz' cs bs ts row' (w3.setCell ⟨pt + 2, 5, none⟩ (.slice A ts.length c)) := by
 have hlt := h.lt
 have h0 := h
 replace h := h.tf_ ht hp hk hs hm
 obtain ⟨Ap, Ab, Ae, cp, cb, ce, e, h1, h2, h3⟩ := h.vals
 have hpt := h.pts
 have hf : ∀ {v d}, DtN 0 (pt + 3) w3 v d -> DtN 0 (pt + 3) (w3.setCell ⟨pt + 2, 5, none⟩ (.slice A ts.length c)) v d := fun h => h.far (p := ⟨pt + 2, 5, none⟩) (Nat.zero_le _) (by show pt + 2 < pt + 3; omega) _
 have hX := h.blkX.set_ 5 (.slice A ts.length c)
 rw [e] at hX
 refine ⟨_, h.pts, ⟨Ap, Ab, A, cp, cb, c, rfl, hf h1, hf h2, hf (dt_up hd hlt)⟩, ⟨Nat.zero_le _, h.ok.2.1, h.ok.2.2.1, h.ok.2.2.2.1, hok⟩, fun hq => ?_, h.k_le, h.sz_le, h.sz_max, hX, h.blkP.far (p := ⟨pt + 2, 5, none⟩) (by show pt ≠ pt + 2; omega) _, (h.blkR.imp fun _ h => ⟨h.1, h.2.far (p := ⟨pt + 2, 5, none⟩) (by show pt + 1 ≠ pt + 2; omega) _⟩), h.pk.set_ h.blkX (by decide) _, h.tf.setCell (p := ⟨pt + 2, 5, none⟩) (.inl (by show w.heap.size <= pt + 2; omega)) _⟩
 have e1 := h0.num (hq' hq)
 have e2 := hn hq
 rw [Tn.num] at e1 ⊢
 simp only [tnsNum] at e1 ⊢
 omega
theorem node_cells {lo : Nat} {w : World} {kd a s u : Int} {x nm : ByteArray} {cs : List Ca} {bs es : List Tn} {vp vb ve : Value} (h1 : DtN 0 lo w vp (.rows 2 (cs.map Ca.row))) (h2 : DtN 0 lo w vb (.rows 9 (tnRows bs))) (h3 : DtN 0 lo w ve (.rows 9 (tnRows es))) : CellsV w (SD 0 lo w) [.int .i64 kd, .string x, .string nm, vp, vb, ve, .int .i64 a, .int .i64 s, .int .i64 u] (Tn.mk kd x nm cs bs es a s u).row := by
 rw [Tn.row]
 exact ⟨_, _, rfl, DtV.int, _, _, rfl, DtV.str, _, _, rfl, DtV.str, _, _, rfl, h1, _, _, rfl, h2, _, _, rfl, h3, _, _, rfl, DtV.int, _, _, rfl, DtV.int, _, _, rfl, DtV.int, rfl⟩
theorem BSt.putR (h : BSt base pb I ad0 c0 pt k0 sz0 P vd w kd pl q k sz cs bs es row wx) : BSt base pb I ad0 c0 pt k0 sz0 P vd w kd pl q k sz cs bs es row (wx.setCells (pt + 1) 0 row) /\ Blk (wx.setCells (pt + 1) 0 row) (pt + 1) 52 row.toArray := by
 obtain ⟨Ap, Ab, Ae, cp, cb, ce, e, h1, h2, h3⟩ := h.vals
 obtain ⟨R, hR, hB⟩ := h.blkR
 have hpt := h.pts
 have hl := h.len
 have hB' := hB.put (vs := row) (by omega)
 have hf : ∀ {v d}, DtN 0 (pt + 3) wx v d -> DtN 0 (pt + 3) (wx.setCells (pt + 1) 0 row) v d := fun h => h.putC (Nat.zero_le _) (by omega) _ _
 exact ⟨⟨h.pts, ⟨Ap, Ab, Ae, cp, cb, ce, e, hf h1, hf h2, hf h3⟩, h.ok, h.num, h.k_le, h.sz_le, h.sz_max, h.blkX.farC (by omega) _ _, h.blkP.farC (by omega) _ _, ⟨_, by simpa using hl, hB'⟩, h.pk.putC hB (by decide) _ _, h.tf.putC (by omega) _ _⟩, hB'⟩
theorem BSt.done (h : BSt base pb I ad0 c0 pt k0 sz0 P vd w kd pl q k sz cs bs es row wx) (b : Bool) (hb : b = true -> q = true) : PBl base pb I ad0 c0 k0 sz0 vd w (.returned (.tuple #[.agg row.toArray, .bool b])) wx := by
 obtain ⟨Ap, Ab, Ae, cp, cb, ce, e, h1, h2, h3⟩ := h.vals
 have hpt := h.pts
 have hf : ∀ {v d}, DtN 0 (pt + 3) wx v d -> DtN 0 w.heap.size wx v d := fun h => h.up (Nat.le_refl _) (by omega)
 exact ⟨kd, Ap, Ab, Ae, cp, cb, ce, cs, bs, es, pl, b, k, sz, by rw [e], hf h1, hf h2, hf h3, h.ok, fun hb' => h.num (hb hb'), h.k_le, h.sz_le, h.sz_max, h.pk, h.tf⟩
end
structure Fn where
 k : Int
 x : ByteArray
 nm : ByteArray
 p : List Ca
 a : Int
 s : Int
 u : Int
def Fn.tn (f : Fn) : Tn := .mk f.k f.x f.nm f.p [] [] f.a f.s f.u
def Fn.ok (f : Fn) : Prop := (f.k = 1 ∨ f.k = 2 ∨ f.k = 7) /\ (∀ c ∈ f.p, CaOk c) /\ f.p.length <= 16 /\ f.x.size <= 16384
def fnRows (l : List Fn) : List (List Dt) := tnRows (l.map Fn.tn)
theorem rowFn {w : World} {S : Nat -> Prop} {A : Option Addr} {l : List Fn} (h : RowsV w S 9 A 0 (fnRows l)) {k : Nat} (hk : k < l.length) : ∃ ad, A = some ad /\ ad.block < w.heap.size /\ RowV w S (ad.add (k * 9)) 0 (l[k]).tn.row := by
 obtain ⟨ad, e, h2, h3⟩ := rowTn (l := l.map Fn.tn) h (by simpa using hk)
 rw [List.getElem_map] at h3
 exact ⟨ad, e, h2, h3⟩
theorem may28_nil (A : Option Addr) (c : Nat) (nu : Int) (w : World) : Calls Tryz.prog 30 #[.slice A 0 c, .int .i64 nu] w (PB w) := by
 go_enter Tryz.func30, Tryz.ntmps30
 go_wp2_with fail
 go_loopw [5] (fun i wr => i = .int .i64 0 /\ wr = w) (fun _ _ => 0)
 case atStart => exact ⟨rfl, rfl⟩
 obtain ⟨rfl, hwr⟩ := hrel
 obtain rfl := hwr
 go_wp2_with fail
 go_ret
 exact ⟨true, rfl, rfl⟩
theorem may28_any (l : List Fn) (n : Nat) (hn : l.length = n) (hz : n <= 1048576) (hok : ∀ f ∈ l, f.ok) (A : Option Addr) (c : Nat) (nu : Int) (w : World) (hr : RowsV w (fun _ => True) 9 A 0 (fnRows l)) : Calls Tryz.prog 30 #[.slice A n c, .int .i64 nu] w (AB w) := by
 have Hr := hid hr
 have Hn := hid hn
 have Hok := hid hok
 clear hr hn hok
 go_enter Tryz.func30, Tryz.ntmps30
 go_wp2_with fail
 go_loopw [5] (fun i wr => ∃ j : Nat, j <= n /\ i = .int .i64 (j : Int) /\ Below w.heap.size w wr) (fun i _ => n - (intOf i).toNat)
 case atStart => exact ⟨0, Nat.zero_le _, rfl, Below.refl _ _⟩
 obtain ⟨j, hj, rfl, hb⟩ := hrel
 have Hb := hid hb
 clear hb
 obtain ⟨W0, rfl⟩ := xS wr
 by_cases hlt : j < n
 ·have hli : (j : Int) < (n : Int) := by omega
  have hj0 : (0 : Int) <= (j : Int) := by omega
  have hjl : j < l.length := by have := Hn.out; omega
  obtain ⟨ad, rfl, hadl, hrow⟩ := rowFn (RowsV.below Hr.out Hb.out) hjl;obtain ⟨t, ht⟩ := xE l[j];have hto := Hok.out _ (List.getElem_mem hjl);rw [ht] at hrow hto;obtain ⟨kk, xx, nm, pp, aa, ss, uu⟩ := t;obtain ⟨hk, hca, hpl, -⟩ := hto;simp only at hk hca hpl;obtain ⟨np, hnp⟩ := xE pp.length;obtain ⟨Ap, cp, Ab, cb, Ae, ce, t0, t1, t2, t3, t4, t5, t6, t7, t8, rp, -, -⟩ := Tn.at_ hrow hnp rfl rfl;have hnpz : np <= 16 := by rw [<- hnp]; exact hpl
  have HM := hid (fun W (h : RowsV W (fun _ => True) 2 Ap 0 (pp.map Ca.row)) => may19_any pp np hnp Ap cp W hca h (by omega));have Rp := hid rp;have Hk := hid hk;simp only [List.length_nil] at t4 t5;clear hrow rp hnp ht hca hpl hk;go_upto_region 5 with fail
  obtain ⟨w1, hw1⟩ := xE (W0.alloc (.cells #[.int .i64 kk, .string xx, .string nm, .slice Ap np cp, .slice Ab 0 cb, .slice Ae 0 ce, .int .i64 aa, .int .i64 ss, .int .i64 uu] 52));have hal : Below W0.heap.size W0 w1 := by rw [<- hw1]; exact alloc_below _ _
  have HX : Hid (Blk w1 W0.heap.size 52 #[.int .i64 kk, .string xx, .string nm, .slice Ap np cp, .slice Ab 0 cb, .slice Ae 0 ce, .int .i64 aa, .int .i64 ss, .int .i64 uu]) := hid (by rw [<- hw1]; exact Blk.new _ _ _);have Hb1 := hid (Hb.out.trans (hal.mono Hb.out.size));have Rp1 := hid (RowsV.below Rp.out hal);rw [hw1];obtain ⟨gn, hgn⟩ := xE W0.heap.size;rw [hgn] at HX ⊢;clear hw1 hal hgn t0 t1 t2 t3 t4 t5 t6 t7 t8 Rp hadl;obtain ⟨⟨d0, -, -, d3, -, -, -, d7, d8⟩, -⟩ := blk9_cells HX.out;go_cut [55] from 7 to 87 (fun cc wx => ∃ b : Bool, cc = .bool b /\ wx = w1)
  case first => as_aux_lemma =>
   rcases Hk.out with hk | hk | hk
   ·subst hk;go_wp2_with fail
    all_goals (go_meet; exact ⟨_, rfl, rfl⟩)
   ·subst hk;by_cases h1 : ss < 1
    ·go_wp2_with fail
     all_goals (go_meet; exact ⟨_, rfl, rfl⟩)
    go_wp2_with fail
    all_goals (go_meet; exact ⟨_, rfl, rfl⟩)
   subst hk;go_wp2_with fail
   all_goals (go_meet; exact ⟨_, rfl, rfl⟩)
  obtain ⟨b, rfl, hwc⟩ := hcut;obtain rfl := hwc;clear d7 d8;cases b
  ·have HM1 := hid (HM.out wc Rp1.out);go_upto_region 7 with fail
   go_cut [75] from 7 to 87 (fun cc wx => ∃ b : Bool, cc = .bool b /\ Below wc.heap.size wc wx)
   case first => as_aux_lemma =>
    rcases Hk.out with hk | hk | hk
    all_goals (
     subst hk;go_wp2_with (go_at_call 52; refine HM1.out.mono ?_; rintro e w3 ⟨bm, rfl, hb3⟩)
     all_goals (go_meet; first | exact ⟨_, rfl, hb3⟩ | exact ⟨_, rfl, Below.refl _ _⟩))
   obtain ⟨b, rfl, hb2⟩ := hcut;obtain ⟨w2, rfl⟩ := xS wc;have HX2 := hid (HX.out.below hb2 HX.out.lt);have Hb2 := hid (Hb1.out.trans (hb2.mono Hb1.out.size));clear hb2 HX Hb1 Rp1 HM1 HM d0 d3;cases b
   ·obtain ⟨⟨-, -, -, -, d4, d5, -, -, -⟩, -⟩ := blk9_cells HX2.out;have HB := hid (fun A c W => may28_nil A c nu W);go_upto_region 9 with fail
    go_cut [87] from 7 to 87 (fun cc wx => ∃ b : Bool, cc = .bool b /\ wx = w2)
    case first => as_aux_lemma =>
     go_wp2_with (go_at_call 30; refine (HB.out _ _ _).mono ?_; rintro e w3 ⟨bm, rfl, hw3⟩; obtain rfl := hw3; cases bm)
     all_goals (go_meet; exact ⟨_, rfl, rfl⟩)
    obtain ⟨b, rfl, hwc⟩ := hcut;obtain rfl := hwc;clear d4 d5;cases b
    ·go_wp2_with fail
     go_roundw
     case rel => exact ⟨j + 1, by omega, by go_num, Hb2.out⟩
     simp [intOf]; omega
    go_wp2_with fail
    go_ret;exact ⟨false, rfl, Hb2.out⟩
   go_wp2_with fail
   go_ret;exact ⟨false, rfl, Hb2.out⟩
  go_wp2_with fail
  go_ret;exact ⟨false, rfl, Hb1.out⟩
 obtain rfl : j = n := by omega
 go_wp2_with fail
 go_ret
 exact ⟨true, rfl, Hb.out⟩
structure U1 (ad : Addr) (l : List Fn) (nb : Nat) (Ab : Option Addr) (cb : Nat) (w : World) : Prop where
 lt : ad.block < w.heap.size
 cell : w.cell? ⟨ad.block, ad.off + 17, none⟩ = some (.slice Ab nb cb)
 rows : RowsV w (fun _ => True) 9 Ab 0 (fnRows l)
 len : l.length = nb
 ok : ∀ f ∈ l, f.ok
 max : nb <= 1024
theorem U1.below {ad : Addr} {l : List Fn} {nb : Nat} {Ab : Option Addr} {cb : Nat} {w w' : World} (h : U1 ad l nb Ab cb w) (hb : Below w.heap.size w w') : U1 ad l nb Ab cb w' :=
 ⟨Nat.lt_of_lt_of_le h.lt hb.size, (hb.cell (p := ⟨ad.block, ad.off + 17, none⟩) h.lt).trans h.cell, h.rows.below hb, h.len, h.ok, h.max⟩
theorem u1_cell {ad : Addr} {l : List Fn} {nb : Nat} {Ab : Option Addr} {cb : Nat} {w : World} (h : U1 ad l nb Ab cb w) (j : Nat) (hj : j = 0) : w.cell? ⟨(ad.add (j * 18)).block, (ad.add (j * 18)).off + 17, none⟩ = some (.slice Ab nb cb) := by
 subst hj
 rw [Nat.zero_mul, addr_zero]
 exact h.cell
theorem tnsDep_flat : ∀ l : List Fn, tnsDep (l.map Fn.tn) <= 1
 | [] => Nat.zero_le _
 | f :: r => by
  have := tnsDep_flat r;rw [List.map_cons, tnsDep, Fn.tn, Tn.dep];simp only [tnsDep];omega
theorem tnsNum_flat : ∀ l : List Fn, tnsNum (l.map Fn.tn) = l.length
 | [] => rfl
 | f :: r => by
  rw [List.map_cons, tnsNum, tnsNum_flat r, Fn.tn, Tn.num];simp only [tnsNum, List.length_cons];omega
def PIB (w : World) (e : Ending) (w' : World) : Prop := ∃ n : Int, e = .returned (.int .i64 n) /\ Below w.heap.size w w'
theorem check28_any (ad : Addr) (cu : Nat) (l : List Fn) (nb : Nat) (Ab : Option Addr) (cb : Nat) (w : World) (h : U1 ad l nb Ab cb w) : Calls Tryz.prog 18 #[.slice (some ad) 1 cu] w (PIB w) := by
 have HU := hid h
 clear h
 go_enter Tryz.func18, Tryz.ntmps18
 go_wp2_with fail
 go_loopw [3] (fun i wr => ∃ j : Nat, j <= 1 /\ i = .int .i64 (j : Int) /\ Below w.heap.size w wr) (fun i _ => 1 - (intOf i).toNat)
 case atStart => exact ⟨0, Nat.zero_le _, rfl, Below.refl _ _⟩
 obtain ⟨j, hj, rfl, hb⟩ := hrel
 have Hb := hid hb
 clear hb
 obtain ⟨W0, rfl⟩ := xS wr
 by_cases hlt : j < 1
 ·have hli : (j : Int) < 1 := by omega
  have hj0 : (0 : Int) <= (j : Int) := by omega
  have HU1 := hid (HU.out.below Hb.out);have c0 := u1_cell HU1.out j (by omega);have HDp := hid (depth_any 1024 (l.map Fn.tn) nb (by rw [List.length_map, HU1.out.len]) (by rw [tnsNum_flat, HU1.out.len]; exact HU1.out.max) (by omega) Ab cb W0 HU1.out.rows);have hdep := tnsDep_flat l;obtain ⟨dd, hdd⟩ := xE (tnsDep (l.map Fn.tn));rw [hdd] at hdep;have hd17 : ¬ ((17 : Int) < (dd : Int)) := by omega
  go_wp2_with (go_at_call 29; refine HDp.out.mono ?_; rintro e w3 ⟨he, m, hw3⟩; rw [hdd] at he; subst he hw3)
  go_roundw
  case rel => exact ⟨j + 1, by omega, by go_num, below_drewN Hb.out m⟩
  simp [intOf]; omega
 have hli : ¬ ((j : Int) < 1) := by omega
 go_wp2_with fail
 go_loopw [4] (fun i wr => ∃ k : Nat, k <= 1 /\ i = .int .i64 (k : Int) /\ Below w.heap.size w wr) (fun i _ => 1 - (intOf i).toNat)
 case atStart => exact ⟨0, Nat.zero_le _, rfl, Hb.out⟩
 obtain ⟨k, hk, rfl, hb⟩ := hrel
 have Hb2 := hid hb
 clear hb Hb
 obtain ⟨W2, rfl⟩ := xS wr
 by_cases hlt2 : k < 1
 ·have hli2 : (k : Int) < 1 := by omega
  have hk0 : (0 : Int) <= (k : Int) := by omega
  have HU1 := hid (HU.out.below Hb2.out);have c0 := u1_cell HU1.out k (by omega);have HMy := hid (may28_any l nb HU1.out.len (by have := HU1.out.max; omega) HU1.out.ok Ab cb 1 W2 HU1.out.rows);go_wp2_with (go_at_call 30; refine HMy.out.mono ?_; rintro e w3 ⟨bm, rfl, hb3⟩; have Hb3 := hid (Hb2.out.trans (hb3.mono Hb2.out.size)); cases bm)
  all_goals first
   | (go_roundw
      case rel => exact ⟨k + 1, by omega, by go_num, Hb3.out⟩
      case measure => simp [intOf]; omega
      done)
   | (go_ret
      exact ⟨_, rfl, Hb3.out⟩)
 have hli2 : ¬ ((k : Int) < 1) := by omega
 go_wp2_with fail
 go_ret
 exact ⟨_, rfl, Hb2.out⟩
structure Te where
 us : Value
 fuel : Int
 most : Int
 used : Int
 out : Value
 trace : Value
 holes : Value
 deep : Int
 er : Int
 at_ : Int
def XTe (t : TypeId) : Bool := t == 64
def XTl (t : TypeId) : Bool := t == 64 || t == 5
def XT (t : TypeId) : Bool := t == 64 || t == 5 || t == 3 || t == 46
theorem XTl_XT : ∀ t, XTl t = true -> XT t = true := fun t h => by
 simp only [XTl, Bool.or_eq_true, beq_iff_eq] at h
 rcases h with h | h <;> subst h <;> rfl
theorem XTe_XTl : ∀ t, XTe t = true -> XTl t = true := fun t h => by
 simp only [XTe, beq_iff_eq] at h
 subst h; rfl
theorem XTe_XT : ∀ t, XTe t = true -> XT t = true := fun t h => by
 simp only [XTe, beq_iff_eq] at h
 subst h; rfl
theorem TF.wide {X Y : TypeId -> Bool} {base : Nat} {w w' : World} (h : TF X base w w') (hXY : ∀ t, X t = true -> Y t = true) : TF Y base w w' :=
 ⟨h.os, h.tape, h.output, h.size, fun b hb hc => h.block b hb (hc.imp id fun ⟨cs, t, fr, h1, h2⟩ => ⟨cs, t, fr, h1, by
  cases hx : X t with
  | false => rfl
  | true => rw [hXY t hx] at h2; cases h2⟩)⟩
def TeAt (pl : Nat) (t : Te) (w : World) : Prop := Blk w pl 64 #[t.us, .int .i64 t.fuel, .int .i64 t.most, .int .i64 t.used, t.out, t.trace, t.holes, .int .i64 t.deep, .int .i64 t.er, .int .i64 t.at_]
theorem TeAt.below {pl : Nat} {t : Te} {w w' : World} (h : TeAt pl t w) (hb : Below w.heap.size w w') : TeAt pl t w' := Blk.below h hb (Blk.lt h)
theorem TeAt.tf {X : TypeId -> Bool} {base pl : Nat} {t : Te} {w : World} (h : TeAt pl t w) (hb : base <= pl) (i : Nat) (u : Value) (hX : X 64 = true := by rfl) : TF X base w (w.setCell ⟨pl, i, none⟩ u) := TF.refl.setCell (p := ⟨pl, i, none⟩) (.inr ⟨hb, _, _, _, h, hX⟩) u
def PFa (base pl : Nat) (t : Te) (b : Int) (w : World) (e : Ending) (w' : World) : Prop := e = .returned (.bool false) /\ (∃ er at_, TeAt pl { t with er := er, at_ := at_ } w' /\ (b ≠ 0 -> er ≠ 0)) /\ TF XTe base w w'
theorem fail28_any (base pl : Nat) (hb : base <= pl) (t : Te) (a b : Int) (w : World) (h : TeAt pl t w) : Calls Tryz.prog 31 #[.pointer (some ⟨pl, 0, none⟩), .int .i64 a, .int .i64 b] w (PFa base pl t b w) := by
 obtain ⟨us, fuel, most, used, out, trace, holes, deep, er, at_⟩ := t
 have H := hid h
 unfold TeAt at h
 simp only at h
 have c8 := (h.cell 8).trans rfl
 have c9 := (h.cell 9).trans rfl
 have f8 := h.frozen 8
 have f9 := h.frozen 9
 clear h
 obtain ⟨q, hq⟩ := xE (er == 0)
 have Hq := hid hq
 go_enter Tryz.func31, Tryz.ntmps31
 cases q
 ·go_wp2_with fail
  go_ret;exact ⟨rfl, ⟨er, at_, H.out, fun _ => beq_eq_false_iff_ne.1 Hq.out⟩, TF.refl⟩
 go_wp2_with fail
 go_ret
 refine ⟨rfl, ⟨b, a, ?_, fun h => h⟩, (TeAt.tf H.out hb 9 _).setCell (p := ⟨pl, 8, none⟩) (.inr ⟨hb, _, _, _, Blk.set_ H.out 9 (.int .i64 a), rfl⟩) _⟩
 have := (Blk.set_ (Blk.set_ H.out 9 (.int .i64 a)) 8 (.int .i64 b))
 simp only [List.setIfInBounds_toArray, List.set_cons_zero, List.set_cons_succ] at this
 exact this
def PSp (base pl : Nat) (t : Te) (w : World) (e : Ending) (w' : World) : Prop := ∃ b : Bool, e = .returned (.bool b) /\ (if b = true then t.used < t.fuel /\ TeAt pl { t with used := t.used + 1 } w' else ∃ er at_, TeAt pl { t with er := er, at_ := at_ } w' /\ er ≠ 0) /\ TF XTe base w w'
theorem spend28_any (base pl : Nat) (hb : base <= pl) (t : Te) (a : Int) (w : World) (h : TeAt pl t w) (h0 : 0 <= t.used) (h1 : t.used <= t.fuel) (h2 : t.fuel <= 65536) : Calls Tryz.prog 53 #[.pointer (some ⟨pl, 0, none⟩), .int .i64 a] w (PSp base pl t w) := by
 have HF := hid (fun W (h : TeAt pl t W) => fail28_any base pl hb t a 81 W h)
 obtain ⟨us, fuel, most, used, out, trace, holes, deep, er, at_⟩ := t
 simp only at h0 h1 h2
 have H := hid h
 unfold TeAt at h
 simp only at h
 have c1 := (h.cell 1).trans rfl
 have c3 := (h.cell 3).trans rfl
 have f3 := h.frozen 3
 clear h
 obtain ⟨q, hq⟩ := xE (used == fuel)
 have Hq := hid hq
 go_enter Tryz.func53, Tryz.ntmps53
 go_upto_region 1 with fail
 go_region
 cases q
 ·go_wp2_with fail
  go_ret;have e0 : used ≠ fuel := beq_eq_false_iff_ne.1 Hq.out;refine ⟨true, rfl, ⟨by show used < fuel; omega, ?_⟩, TF.refl.drew.trans (TeAt.tf (w := w.drew) H.out hb 3 _)⟩;have := (Blk.set_ (w := w.drew) H.out 3 (.int .i64 (used + 1)))
  simp only [List.setIfInBounds_toArray, List.set_cons_zero, List.set_cons_succ] at this;exact this
 go_wp2_with (go_at_call 31; refine (HF.out _ (by exact H.out)).mono ?_; rintro e w3 ⟨rfl, hp3, ht3⟩)
 go_ret
 obtain ⟨er', a', h1, h2⟩ := hp3
 exact ⟨false, rfl, ⟨er', a', h1, h2 (by decide)⟩, TF.refl.drew.trans ht3⟩
theorem ownB_shape {w : World} {base : Nat} {v : Value} {l : List UInt8} (ho : OwnB w base v l) : ∃ A c, v = .slice A l.length c := by
 rcases ho.2 with ⟨e, h0⟩ | ⟨g, cap, cur, e, _⟩
 ·exact ⟨none, 0, by rw [e, h0]⟩
 exact ⟨_, cap, e⟩
theorem ownB_same {w w' : World} {base : Nat} {v : Value} {l : List UInt8} (h : OwnB w base v l) (hs : ∀ g cur, v.ownBlock = some g -> w.heap[g]? = some (.cells cur 5 (0, 0)) -> w'.heap[g]? = w.heap[g]?) : OwnB w' base v l := by
 refine ⟨h.1, ?_⟩
 rcases h.2 with h0 | ⟨g, cap, cur, rfl, hb, hg, h4⟩
 ·exact .inl h0
 exact .inr ⟨g, cap, cur, rfl, hb, (hs g cur rfl hg).trans hg, h4⟩
def PTl (base pl : Nat) (t : Te) (l : List UInt8) (s : ByteArray) (w : World) (e : Ending) (w' : World) : Prop := ∃ b : Bool, e = .returned (.bool b) /\ (if b = true then (l.length : Int) + s.size <= t.most /\ ∃ v', TeAt pl { t with out := v' } w' /\ OwnB w' base v' (l ++ s.data.toList) else ∃ er at_, TeAt pl { t with er := er, at_ := at_ } w' /\ er ≠ 0) /\ TF XTl base w w'
theorem tell28_any (base pl : Nat) (hb : base <= pl) (t : Te) (l : List UInt8) (s : ByteArray) (a : Int) (w : World) (h : TeAt pl t w) (ho : OwnB w base t.out l) (hm : t.most <= 65536) (hs : s.size <= 1099511627) (hl : l.length <= 1099511627) : Calls Tryz.prog 68 #[.pointer (some ⟨pl, 0, none⟩), .string s, .int .i64 a] w (PTl base pl t l s w) := by
 have HF := hid (fun W (h : TeAt pl t W) => fail28_any base pl hb t a 17 W h)
 obtain ⟨us, fuel, most, used, out, trace, holes, deep, er, at_⟩ := t
 simp only at hm ho
 obtain ⟨n, hn⟩ := xE l.length
 obtain ⟨A, c, rfl⟩ : ∃ A c, out = .slice A n c := by
  rcases ho.2 with ⟨e, h0⟩ | ⟨g, cap, cur, e, _⟩
  ·exact ⟨none, 0, by rw [e, <- hn, h0]⟩
  exact ⟨_, cap, by rw [e, hn]⟩
 have H := hid h
 have HO := hid ho
 have hlt := Blk.lt h
 unfold TeAt at h
 simp only at h
 have c2 := (h.cell 2).trans rfl
 have c4 := (h.cell 4).trans rfl
 have f4 := h.frozen 4
 have Hn := hid hn
 clear h ho
 have hn1 : n <= 1099511627 := by omega
 clear hn
 go_enter Tryz.func68, Tryz.ntmps68
 go_upto_region 1 with fail
 by_cases hq : most < (n : Int) + (s.size : Int)
 ·go_region
  go_wp2_with (go_at_call 31; refine (HF.out _ (by exact H.out)).mono ?_; rintro e w3 ⟨rfl, hp3, ht3⟩)
  go_ret;obtain ⟨er', a', h1, h2⟩ := hp3;exact ⟨false, rfl, ⟨er', a', h1, h2 (by decide)⟩, TF.refl.drew.trans (ht3.wide XTe_XTl)⟩
 go_region
 have HO1 := hid (OwnB.drew HO.out)
 have hbs : base <= w.drew.heap.size := by show base <= w.heap.size; omega
 have hty : ∀ g, (Value.slice A n c).ownBlock = some g -> ∃ cs, w.heap[g]? = some (.cells cs 5 (0, 0)) := fun g hg => by
  rcases HO.out.2 with ⟨e, h0⟩ | ⟨g', cap, cur, e, hb', hg', h4⟩
  ·rw [e] at hg; cases hg
  rw [e] at hg;have : g' = g := by simpa [Value.ownBlock] using hg
  subst this;exact ⟨cur, hg'⟩
 have Hty := hid hty
 clear hty c2
 go_wp2_with (at_builtin; refine wpl_pushs rfl _ _ rfl base (.slice A n c) l rfl HO1.out s rfl (by omega) hbs ?_; intro v' w3 hO3 hg3; obtain ⟨A3, c3, rfl⟩ := ownB_shape hO3; obtain ⟨n3, hn3⟩ := xE (l ++ s.data.toList).length; rw [hn3] at hO3 ⊢; clear hn3; have HO3 := hid hO3; have H3 : Hid (TeAt pl ⟨us, fuel, most, used, .slice A n c, trace, holes, deep, er, at_⟩ w3) := hid (Blk.grown (w := w.drew) H.out hg3 (fun e => by obtain ⟨cs, hc⟩ := Hty.out pl e.symm; exact Blk.ne_ H.out hc (by decide) rfl)); have HT3 : Hid (TF XTl base w w3) := hid (TF.refl.drew.grown hg3 (fun g hg => by obtain ⟨cs, hc⟩ := Hty.out g hg; exact .inr ⟨(HO.out.lt g hg).1, _, _, _, hc, rfl⟩)); have c4 := (Blk.cell H3.out 4).trans rfl; have f4 := Blk.frozen H3.out 4; clear hO3)
 go_ret
 have hT := HT3.out.setCell (p := ⟨pl, 4, none⟩) (.inr ⟨hb, _, _, _, H3.out, rfl⟩) (.slice A3 n3 c3)
 have hB := (Blk.set_ H3.out 4 (.slice A3 n3 c3))
 simp only [List.setIfInBounds_toArray, List.set_cons_zero, List.set_cons_succ] at hB
 exact ⟨true, rfl, ⟨by have := Hn.out; show (l.length : Int) + s.size <= most; omega, .slice A3 n3 c3, hB, ownB_same HO3.out fun g cur _ hc => Below.heap_setCell w3 _ _ g (by rintro rfl; exact Blk.ne_ H3.out hc (by decide) rfl)⟩, hT⟩
end Go.Proofs.YtkcnmjdomipbjaaGreat
