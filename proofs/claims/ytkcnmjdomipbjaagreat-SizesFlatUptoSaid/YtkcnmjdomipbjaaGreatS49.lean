import Derived.Test.YtkcnmjdomipbjaaGreatS42
import Derived.Test.YtkcnmjdomipbjaaGreatS48
set_option linter.unusedVariables false
set_option maxHeartbeats 100000000
set_option maxRecDepth 100000
namespace Go.Proofs.YtkcnmjdomipbjaaGreat
open Go.RowKit
def VarAt (p : Addr) (nm : ByteArray) (v0 v1 v2 v3 v4 : Value) (w : World) : Prop := w.cell? p = some (.string nm) /\ w.cell? ⟨p.block, p.off + 1, none⟩ = some v0 /\ w.cell? ⟨p.block, p.off + 2, none⟩ = some v1 /\ w.cell? ⟨p.block, p.off + 3, none⟩ = some v2 /\ w.cell? ⟨p.block, p.off + 4, none⟩ = some v3 /\ w.cell? ⟨p.block, p.off + 5, none⟩ = some v4
theorem VarAt.keep {p : Addr} {nm : ByteArray} {v0 v1 v2 v3 v4 : Value} {w w' : World} (h : VarAt p nm v0 v1 v2 v3 v4 w) (hp : w'.heap[p.block]? = w.heap[p.block]?) : VarAt p nm v0 v1 v2 v3 v4 w' :=
 ⟨(World.cell?_of_block (a := p) hp).trans h.1, (World.cell?_of_block (a := ⟨p.block, p.off + 1, none⟩) hp).trans h.2.1, (World.cell?_of_block (a := ⟨p.block, p.off + 2, none⟩) hp).trans h.2.2.1, (World.cell?_of_block (a := ⟨p.block, p.off + 3, none⟩) hp).trans h.2.2.2.1, (World.cell?_of_block (a := ⟨p.block, p.off + 4, none⟩) hp).trans h.2.2.2.2.1, (World.cell?_of_block (a := ⟨p.block, p.off + 5, none⟩) hp).trans h.2.2.2.2.2⟩
def VarsV (B : Nat) (A : Option Addr) (n : Nat) (w : World) : Prop := ∀ i, i < n -> ∃ ad nm v0 v1 v2 v3 v4, A = some ad /\ (∃ cs fr, w.heap[ad.block]? = some (.cells cs 124 fr)) /\ VarAt (ad.add (i * 6)) nm v0 v1 v2 v3 v4 w /\ VdV 1048583 B (.agg #[v0, v1, v2, v3, v4]) w
theorem heap_lt {w : World} {g : Nat} {o : Obj} (h : w.heap[g]? = some o) : g < w.heap.size := by
 rcases Nat.lt_or_ge g w.heap.size with hl | hl
 ·exact hl
 rw [Array.getElem?_eq_none hl] at h; cases h
theorem VarsV.tf {X : TypeId -> Bool} {B base n : Nat} {A : Option Addr} {w w' : World} (h : VarsV B A n w) (ht : TF X base w w') (hx : X 124 = false) (hb : Below B w w') : VarsV B A n w' := fun i hi => by
 obtain ⟨ad, nm, v0, v1, v2, v3, v4, e, ⟨cs, fr, h1⟩, h2, h3⟩ := h i hi
 have hk := ht.block ad.block (heap_lt h1) (.inr ⟨_, _, _, h1, hx⟩)
 exact ⟨ad, nm, v0, v1, v2, v3, v4, e, ⟨cs, fr, hk.trans h1⟩, h2.keep (by rw [block_of_add]; exact hk), h3.keep hb⟩
theorem VarsV.below {B n : Nat} {A : Option Addr} {w w' : World} (h : VarsV B A n w) (hb : Below w.heap.size w w') : VarsV B A n w' := fun i hi => by
 obtain ⟨ad, nm, v0, v1, v2, v3, v4, e, ⟨cs, fr, h1⟩, h2, h3⟩ := h i hi
 have hk := hb.block ad.block (heap_lt h1)
 exact ⟨ad, nm, v0, v1, v2, v3, v4, e, ⟨cs, fr, hk.trans h1⟩, h2.keep (by rw [block_of_add]; exact hk), h3.below hb⟩
def EnvV (B : Nat) (val : Value) (w : World) : Prop := ∃ (r0 r1 r2 r3 r4 d0 d1 d2 d3 d4 : Value) (Av : Option Addr) (nv cv : Nat), val = .agg #[r0, r1, r2, r3, r4, d0, d1, d2, d3, d4, .slice Av nv cv] /\ VdV 1048583 B (.agg #[r0, r1, r2, r3, r4]) w /\ VdV 1048583 B (.agg #[d0, d1, d2, d3, d4]) w /\ VarsV B Av nv w /\ nv <= 1048576
theorem EnvV.below {B : Nat} {val : Value} {w w' : World} (h : EnvV B val w) (hb : Below w.heap.size w w') : EnvV B val w' := by
 obtain ⟨r0, r1, r2, r3, r4, d0, d1, d2, d3, d4, Av, nv, cv, e, h1, h2, h3, h4⟩ := h
 exact ⟨r0, r1, r2, r3, r4, d0, d1, d2, d3, d4, Av, nv, cv, e, h1.below hb, h2.below hb, h3.below hb, h4⟩
theorem vd_one {N B : Nat} {v0 v1 v2 v3 v4 : Value} {w : World} (h : VdV N B (.agg #[v0, v1, v2, v3, v4]) w) : ([v0, v1, v2, v3, v4] : List Value).all (·.oneCell') = true := by
 obtain ⟨k, m, x, l, ks, nl, nk, Al, Ak, cl, ck, rfl, rfl, rfl, rfl, rfl, _⟩ := h.parts
 rfl
theorem blk_inj {w : World} {g : Nat} {t t' : TypeId} {cs cs' : Array Value} (h : Blk w g t cs) (h' : Blk w g t' cs') : cs = cs' := by
 unfold Blk at h h'
 rw [h] at h'
 injection h' with h'
 injection h' with h1 _
structure AS (B pt : Nat) (w : World) (E A : List Value) (wx : World) : Prop where
 hb : Below w.heap.size w wx
 e : Blk wx pt 99 E.toArray
 a : Blk wx (pt + 1) 137 A.toArray
 r : Blk wx (pt + 2) 25 #[.int .i64 0, .int .i64 0, .string ⟨#[]⟩, .slice none 0 0, .slice none 0 0]
 v : ∃ u0 u1 u2 u3 u4, Blk wx (pt + 3) 25 #[u0, u1, u2, u3, u4] /\ VdV 1048583 B (.agg #[u0, u1, u2, u3, u4]) wx
section
variable {B pt : Nat} {w wx w' : World} {E A : List Value}
theorem AS.below (h : AS B pt w E A wx) (hb : Below wx.heap.size wx w') : AS B pt w E A w' := by
 obtain ⟨u0, u1, u2, u3, u4, h1, h2⟩ := h.v
 exact ⟨h.hb.trans (hb.mono h.hb.size), h.e.below hb h.e.lt, h.a.below hb h.a.lt, h.r.below hb h.r.lt, ⟨u0, u1, u2, u3, u4, h1.below hb h1.lt, h2.below hb⟩⟩
theorem AS.putV (h : AS B pt w E A wx) (hp : w.heap.size = pt) (hB : B <= pt) {v0 v1 v2 v3 v4 : Value} (hv : VdV 1048583 B (.agg #[v0, v1, v2, v3, v4]) wx) : AS B pt w E A (wx.setCells (pt + 3) 0 [v0, v1, v2, v3, v4]) := by
 obtain ⟨u0, u1, u2, u3, u4, h1, h2⟩ := h.v
 exact ⟨h.hb.trans (below_setCells _ (by omega)), h.e.farC (by omega) _ _, h.a.farC (by omega) _ _, h.r.farC (by omega) _ _, ⟨v0, v1, v2, v3, v4, h1.put (vs := [v0, v1, v2, v3, v4]) rfl, hv.keep (below_setCells _ (by omega))⟩⟩
end
theorem as_far {B pt gt : Nat} {w wx : World} {E A vs : List Value} (h : AS B pt w E A wx) (hp : w.heap.size <= pt) (hg : pt + 3 < gt) (hB : B <= w.heap.size) (_ : True) : AS B pt w E A (wx.setCells gt 0 vs) := by
 obtain ⟨u0, u1, u2, u3, u4, h1, h2⟩ := h.v
 exact ⟨h.hb.trans (below_setCells _ (by omega)), h.e.farC (by omega) _ _, h.a.farC (by omega) _ _, h.r.farC (by omega) _ _, ⟨u0, u1, u2, u3, u4, h1.farC (by omega) _ _, h2.keep (below_setCells _ (by omega))⟩⟩
theorem arg27_any (B : Nat) (ve : Value) (ak : Int) (anm : ByteArray) (path : List ByteArray) (an : Int) (ax : ByteArray) (np : Nat) (hnp : path.length = np) (Ap : Option Addr) (cp : Nat) (w : World) (hE : EnvV B ve w) (hB : B <= w.heap.size) (ha : ArOk 1048577 ⟨ak, anm, path, an, ax⟩) (hr : RowsV w (fun _ => True) 1 Ap 0 (strRows path)) : Calls Tryz.prog 66 #[ve, .agg #[.int .i64 ak, .string anm, .slice Ap np cp, .int .i64 an, .string ax]] w (PVE 1048583 B w) := by
 obtain ⟨r0, r1, r2, r3, r4, d0, d1, d2, d3, d4, Av, nv, cv, rfl, hvr, hvd, hvs, hnv⟩ := hE
 obtain ⟨-, hxz, hpz, -⟩ := ha
 simp only at hxz hpz
 have hnpz : np <= 1048577 := by omega
 have Hvr := hid hvr
 have Hvd := hid hvd
 have Hvs := hid hvs
 have Hr := hid hr
 have HB := hid hB
 have Hnp := hid hnp
 have HTx := hid (fun W => text04_any B ax W)
 have HIn := hid (fun W => int04_any B an W)
 have HT6 := hid (fun b W => truth26_any B b W)
 clear hvr hvd hvs hr hB hnp
 obtain ⟨W, hW⟩ := xE (((w.alloc (.cells #[r0, r1, r2, r3, r4, d0, d1, d2, d3, d4, .slice Av nv cv] 99)).alloc (.cells #[.int .i64 ak, .string anm, .slice Ap np cp, .int .i64 an, .string ax] 137)).alloc (.cells #[.int .i64 0, .int .i64 0, .string ⟨#[]⟩, .slice none 0 0, .slice none 0 0] 25))
 have hbw : Below w.heap.size w W := by rw [<- hW]; go_grown
 have HX : Hid (Blk W w.heap.size 99 #[r0, r1, r2, r3, r4, d0, d1, d2, d3, d4, .slice Av nv cv]) := hid (by rw [<- hW]; exact ((Blk.new w _ _).alloc _).alloc _)
 have HY : Hid (Blk W (w.heap.size + 1) 137 #[.int .i64 ak, .string anm, .slice Ap np cp, .int .i64 an, .string ax]) := hid (by rw [<- hW]; exact (Blk.new_at _ _ (by simp) _ _).alloc _)
 have HR : Hid (Blk W (w.heap.size + 2) 25 #[.int .i64 0, .int .i64 0, .string ⟨#[]⟩, .slice none 0 0, .slice none 0 0]) := hid (by rw [<- hW]; exact Blk.new_at _ _ (by simp) _ _)
 have hWz : W.heap.size = w.heap.size + 3 := by rw [<- hW]; simp
 have Hb := hid hbw
 obtain ⟨pt, hpt⟩ := xE w.heap.size
 rw [hpt] at HX HY HR hWz
 clear hbw
 go_enter Tryz.func66, Tryz.ntmps66
 have hsz := hpt
 go_upto_region 1 with fail
 clear hW
 have e5 := (HX.out.cell 5).trans rfl
 have e6 := (HX.out.cell 6).trans rfl
 have e7 := (HX.out.cell 7).trans rfl
 have e8 := (HX.out.cell 8).trans rfl
 have e9 := (HX.out.cell 9).trans rfl
 refine wp_region_lit ?_
 refine mv (.pointer (some ⟨pt, 5, none⟩)) ?_
 refine mv (.agg #[d0, d1, d2, d3, d4]) ?_
 clear e5 e6 e7 e8 e9
 refine wpl_val (some 6) (v := .pointer (some ⟨W.heap.size, 0, none⟩)) (w' := W.alloc (.cells #[.int .i64 0, .int .i64 0, .string ⟨#[]⟩, .slice none 0 0, .slice none 0 0] 25)) rfl rfl (by go_simp) ?_
 simp only [Act.put, aQ, aZ, aC]
 have hB6 : Blk (W.alloc (.cells #[.int .i64 0, .int .i64 0, .string ⟨#[]⟩, .slice none 0 0, .slice none 0 0] 25)) W.heap.size 25 #[.int .i64 0, .int .i64 0, .string ⟨#[]⟩, .slice none 0 0, .slice none 0 0] := Blk.new _ _ _
 have hone : ([d0, d1, d2, d3, d4] : List Value).all (·.oneCell') = true := by
  obtain ⟨k, m, x, l, ks, nl, nk, Al, Ak, cl, ck, rfl, rfl, rfl, rfl, rfl, _⟩ := Hvd.out.parts;rfl
 refine stI [d0, d1, d2, d3, d4] hB6 rfl hone uValue ?_
 refine wpList_nil ?_
 (try simp only [Exit.then])
 have hal : Below W.heap.size W (W.alloc (.cells #[.int .i64 0, .int .i64 0, .string ⟨#[]⟩, .slice none 0 0, .slice none 0 0] 25)) := alloc_below _ _
 have hb2 : Below W.heap.size W ((W.alloc (.cells #[.int .i64 0, .int .i64 0, .string ⟨#[]⟩, .slice none 0 0, .slice none 0 0] 25)).setCells W.heap.size 0 [d0, d1, d2, d3, d4]) := hal.trans (below_setCells _ (Nat.le_refl _))
 have HV6 := hid (hB6.put (vs := [d0, d1, d2, d3, d4]) rfl)
 obtain ⟨W2, hW2⟩ := xE ((W.alloc (.cells #[.int .i64 0, .int .i64 0, .string ⟨#[]⟩, .slice none 0 0, .slice none 0 0] 25)).setCells W.heap.size 0 [d0, d1, d2, d3, d4])
 rw [hW2] at hb2 HV6 ⊢
 rw [hWz] at HV6 ⊢
 have HS2 : Hid (AS B pt w [r0, r1, r2, r3, r4, d0, d1, d2, d3, d4, .slice Av nv cv] [.int .i64 ak, .string anm, .slice Ap np cp, .int .i64 an, .string ax] W2) := hid ⟨Hb.out.trans (hb2.mono Hb.out.size), HX.out.below hb2 HX.out.lt, HY.out.below hb2 HY.out.lt, HR.out.below hb2 HR.out.lt, ⟨d0, d1, d2, d3, d4, HV6.out, (Hvd.out.below Hb.out).below hb2⟩⟩
 clear hW2 hal hB6 hb2 HV6 HX HY HR Hb hone
 have a0 := (HS2.out.a.cell 0).trans rfl
 go_upto_region 4 with fail
 clear a0
 obtain ⟨q1, hq1⟩ := xE (ak == 1)
 obtain ⟨q2, hq2⟩ := xE (ak == 2)
 obtain ⟨q3, hq3⟩ := xE (ak == 3)
 obtain ⟨q4, hq4⟩ := xE (ak == 4)
 obtain ⟨q5, hq5⟩ := xE (ak == 5)
 obtain ⟨q6, hq6⟩ := xE (ak == 6)
 obtain ⟨q7, hq7⟩ := xE (ak == 7)
 cases q1
 case true =>
  go_upto_region 25 with fail
  go_wp2_with fail
  go_loopw [9] (fun i wr => ∃ j : Nat, i = .int .i64 (j : Int) /\ j <= np /\ AS B pt w [r0, r1, r2, r3, r4, d0, d1, d2, d3, d4, .slice Av nv cv] [.int .i64 ak, .string anm, .slice Ap np cp, .int .i64 an, .string ax] wr) (fun i _ => np - (intOf i).toNat)
  case atStart => exact ⟨0, rfl, Nat.zero_le _, HS2.out⟩
  obtain ⟨j, rfl, hj, hS⟩ := hrel;obtain ⟨W3, rfl⟩ := xS wr;have HS3 := hid hS;clear hS HS2;have hj0 : (0 : Int) <= (j : Int) := by omega
  have a2 := (HS3.out.a.cell 2).trans rfl;by_cases hlt : j < np
  ·have hli : (j : Int) < (np : Int) := by omega
   have hjp : j < path.length := by have := Hnp.out; omega
   obtain ⟨ap, rfl, _, hapl, hrow⟩ := RowsV.get (f := fun x => [Dt.str x]) Hr.out hjp;obtain ⟨sp, hsp⟩ := xE path[j];rw [hsp] at hrow;have p0 := Str.at_ hrow;simp only [Nat.mul_one] at p0;have Hp0 : Hid (∀ W, Below w.heap.size w W -> W.cell? (ap.add j) = some (.string sp)) := hid (fun W hb => (hb.cell (p := ap.add j) (by rw [block_of_add]; exact hapl)).trans p0);have Ha2 : Hid (∀ W, AS B pt w [r0, r1, r2, r3, r4, d0, d1, d2, d3, d4, .slice Av nv cv] [.int .i64 ak, .string anm, .slice (some ap) np cp, .int .i64 an, .string ax] W -> W.cell? ⟨pt + 1, 2, none⟩ = some (.slice (some ap) np cp)) := hid (fun W h => (h.a.cell 2).trans rfl);clear p0 hrow hsp;obtain ⟨u0, u1, u2, u3, u4, hvb, hvd3⟩ := HS3.out.v;obtain ⟨ku, mu, xu, lu_, ksu, nlu, nku, Alu, Aku, clu, cku, rfl, rfl, rfl, rfl, rfl, hnlu, hnku, hNu, hlu, hku⟩ := hvd3.parts;have HFd := hid (fun W (h : AS B pt w [r0, r1, r2, r3, r4, d0, d1, d2, d3, d4, .slice Av nv cv] [.int .i64 ak, .string anm, .slice (some ap) np cp, .int .i64 an, .string ax] W /\ Blk W (pt + 3) 25 #[.int .i64 ku, .int .i64 mu, .string xu, .slice Alu nlu clu, .slice Aku nku cku]) => by
    obtain ⟨_, _, _, _, _, h1, h2⟩ := h.1.v;have h3 := h.2;have e := blk_inj h1 h3;simp only [Array.mk.injEq, List.cons.injEq, and_true] at e;obtain ⟨rfl, rfl, rfl, rfl, rfl⟩ := e;obtain ⟨k, m, x, l, ks, nl, nk, Al, Ak, cl, ck, g0, g1, g2, g3, g4, hnl, hnk, hN, hl, hk⟩ := h2.parts;cases g0; cases g1; cases g2; cases g3; cases g4;exact field04_any 1048583 B ku mu xu l ks nlu nku hnl hnk hN (by omega) Alu Aku clu cku sp W hl hk)
   have Hvb := hid hvb;clear hvb hlu hku;go_upto_region 28 with fail
   clear a2;go_cut [10, 11] from 75 to 96 (fun vx vf (wx : World) => ∃ (gt : Nat) (er : Int) (z0 z1 z2 z3 z4 : Value), vx = .pointer (some ⟨gt, 0, none⟩) /\ vf = .int .i64 er /\ pt + 3 < gt /\ AS B pt w [r0, r1, r2, r3, r4, d0, d1, d2, d3, d4, .slice Av nv cv] [.int .i64 ak, .string anm, .slice (some ap) np cp, .int .i64 an, .string ax] wx /\ Blk wx gt 25 #[z0, z1, z2, z3, z4] /\ VdV 1048583 B (.agg #[z0, z1, z2, z3, z4]) wx)
   case first => as_aux_lemma =>
    refine wp_region_held_drew (S := fun wy => AS B pt w [r0, r1, r2, r3, r4, d0, d1, d2, d3, d4, .slice Av nv cv] [.int .i64 ak, .string anm, .slice (some ap) np cp, .int .i64 an, .string ax] wy /\ Blk wy (pt + 3) 25 #[.int .i64 ku, .int .i64 mu, .string xu, .slice Alu nlu clu, .slice Aku nku cku]) (by kernel_rfl) ⟨HS3.out.below (Below.refl _ _).drew, Hvb.out⟩ (fun hHeld => ?_);obtain ⟨W4, hW4⟩ := xE W3.drew;rw [hW4] at hHeld ⊢;clear hW4;refine tq 0 83 (.agg #[.int .i64 ku, .int .i64 mu, .string xu, .slice Alu nlu clu, .slice Aku nku cku]) rfl (yl [.int .i64 ku, .int .i64 mu, .string xu, .slice Alu nlu clu, .slice Aku nku cku] (fun w h => h.2)) hHeld ?_;refine tk 1 84 (.pointer (some ⟨pt + 1, 2, none⟩)) rfl hHeld ?_;refine tq 2 85 (.slice (some ap) np cp) rfl (yc (pt + 1) 2 fun w h => Ha2.out w h.1) hHeld ?_;refine tk 3 86 (.int .i64 (j : Int)) rfl hHeld ?_;refine tk 4 87 (.pointer (some (ap.add j))) rfl hHeld ?_;refine tq 5 88 (.string sp) rfl (yields_run (by rfl) (fun wy h => by have hc := Hp0.out wy h.1.hb; go_simp)) hHeld ?_;refine wpAnyH_ready (rs := [6, 10]) (by kernel_rfl) (by simp) ?_;refine callH 6 (some 89) rfl rfl (by rfl) (args := #[.agg #[.int .i64 ku, .int .i64 mu, .string xu, .slice Alu nlu clu, .slice Aku nku cku], .string sp]) (by go_simp) (HFd.out _ hHeld) (fun e w4 hR => ?_) ?_
    ·obtain ⟨val, er, rfl, hv4, hb4⟩ := hR;obtain ⟨kr, mr, xr, lr, ksr, nlr, nkr, Alr, Akr, clr, ckr, rfl, hnlr, hnkr, hNr, hlr, hkr⟩ := hv4;have hH4 := And.intro (hHeld.1.below hb4) (hHeld.2.below hb4 hHeld.2.lt);refine ⟨_, rfl, hH4, ?_⟩;simp only [Act.put, aQ, aZ, aC];refine tk 7 82 (.tuple #[.agg #[.int .i64 kr, .int .i64 mr, .string xr, .slice Alr nlr clr, .slice Akr nkr ckr], .int .i64 er]) rfl hH4 ?_;refine tk 8 90 (.agg #[.int .i64 kr, .int .i64 mr, .string xr, .slice Alr nlr clr, .slice Akr nkr ckr]) rfl hH4 ?_;refine tk 9 91 (.int .i64 er) rfl hH4 ?_;refine wpAnyH_ready (rs := [10]) (by kernel_rfl) (by simp) ?_;refine valH 10 (some 10) rfl rfl (by rfl) (.pointer (some ⟨w4.heap.size, 0, none⟩)) (w4.alloc (.cells #[.int .i64 0, .int .i64 0, .string ⟨#[]⟩, .slice none 0 0, .slice none 0 0] 25)) (by go_simp) ?_ AllReadyH.nil;have hal : Below w4.heap.size w4 (w4.alloc (.cells #[.int .i64 0, .int .i64 0, .string ⟨#[]⟩, .slice none 0 0, .slice none 0 0] 25)) := alloc_below _ _;have HBt : Hid (Blk (w4.alloc (.cells #[.int .i64 0, .int .i64 0, .string ⟨#[]⟩, .slice none 0 0, .slice none 0 0] 25)) w4.heap.size 25 #[.int .i64 0, .int .i64 0, .string ⟨#[]⟩, .slice none 0 0, .slice none 0 0]) := hid (Blk.new _ _ _);have hgt : pt + 3 < w4.heap.size := hH4.2.lt;have hH2 := And.intro (hH4.1.below hal) (hH4.2.below hal hH4.2.lt);have hvx : VdV 1048583 B (.agg #[.int .i64 kr, .int .i64 mr, .string xr, .slice Alr nlr clr, .slice Akr nkr ckr]) (w4.alloc (.cells #[.int .i64 0, .int .i64 0, .string ⟨#[]⟩, .slice none 0 0, .slice none 0 0] 25)) := VdV.below ⟨kr, mr, xr, lr, ksr, nlr, nkr, Alr, Akr, clr, ckr, rfl, hnlr, hnkr, hNr, hlr, hkr⟩ hal;refine ⟨hH2, ?_⟩;simp only [Act.put, aQ, aZ, aC];obtain ⟨w4x, hWx⟩ := xE (w4.alloc (.cells #[.int .i64 0, .int .i64 0, .string ⟨#[]⟩, .slice none 0 0, .slice none 0 0] 25));obtain ⟨gt, hgtx⟩ := xE w4.heap.size;rw [hWx] at HBt hH2 hvx ⊢;rw [hgtx] at HBt hgt ⊢;clear hWx hgtx hal;refine wpAnyH_ready (rs := [11]) (by kernel_rfl) (by simp) ?_;refine storeH 11 (g := gt) (l := [.int .i64 kr, .int .i64 mr, .string xr, .slice Alr nlr clr, .slice Akr nkr ckr]) rfl rfl (by rfl) _ _ rfl rfl rfl HBt.out rfl rfl uValue ?_ AllReadyH.nil;have hS9 : AS B pt w [r0, r1, r2, r3, r4, d0, d1, d2, d3, d4, .slice Av nv cv] [.int .i64 ak, .string anm, .slice (some ap) np cp, .int .i64 an, .string ax] (w4x.setCells gt 0 [.int .i64 kr, .int .i64 mr, .string xr, .slice Alr nlr clr, .slice Akr nkr ckr]) := as_far hH2.1 (by omega) hgt HB.out trivial;have hv9 : VdV 1048583 B (.agg #[.int .i64 kr, .int .i64 mr, .string xr, .slice Alr nlr clr, .slice Akr nkr ckr]) (w4x.setCells gt 0 [.int .i64 kr, .int .i64 mr, .string xr, .slice Alr nlr clr, .slice Akr nkr ckr]) := VdV.keep hvx (below_setCells _ (by have := HB.out; omega));have hb9 := HBt.out.put (vs := [.int .i64 kr, .int .i64 mr, .string xr, .slice Alr nlr clr, .slice Akr nkr ckr]) rfl;have hu9 := hH2.2.farC (show pt + 3 ≠ gt by omega) 0 [.int .i64 kr, .int .i64 mr, .string xr, .slice Alr nlr clr, .slice Akr nkr ckr];refine ⟨⟨hS9, hu9⟩, ?_⟩;refine tk 12 11 (.int .i64 er) rfl (And.intro hS9 hu9) ?_;refine wpAnyH_done (by kernel_rfl) ?_ _;(try simp only [Exit.then]);go_wp2_with fail
     go_meet;exact ⟨gt, er, _, _, _, _, _, rfl, rfl, hgt, hS9, hb9, hv9⟩
    refine valH 10 (some 10) rfl rfl (by rfl) (.pointer (some ⟨W4.heap.size, 0, none⟩)) (W4.alloc (.cells #[.int .i64 0, .int .i64 0, .string ⟨#[]⟩, .slice none 0 0, .slice none 0 0] 25)) (by go_simp) ?_ AllReadyH.nil;have hal : Below W4.heap.size W4 (W4.alloc (.cells #[.int .i64 0, .int .i64 0, .string ⟨#[]⟩, .slice none 0 0, .slice none 0 0] 25)) := alloc_below _ _;have HBt : Hid (Blk (W4.alloc (.cells #[.int .i64 0, .int .i64 0, .string ⟨#[]⟩, .slice none 0 0, .slice none 0 0] 25)) W4.heap.size 25 #[.int .i64 0, .int .i64 0, .string ⟨#[]⟩, .slice none 0 0, .slice none 0 0]) := hid (Blk.new _ _ _);have hgt : pt + 3 < W4.heap.size := hHeld.2.lt;have hH2 := And.intro (hHeld.1.below hal) (hHeld.2.below hal hHeld.2.lt);refine ⟨hH2, ?_⟩;simp only [Act.put, aQ, aZ, aC];obtain ⟨W4x, hWx⟩ := xE (W4.alloc (.cells #[.int .i64 0, .int .i64 0, .string ⟨#[]⟩, .slice none 0 0, .slice none 0 0] 25));obtain ⟨gt, hgtx⟩ := xE W4.heap.size;rw [hWx] at HBt hH2 ⊢;rw [hgtx] at HBt hgt ⊢;clear hWx hgtx hal;refine wpAnyH_ready (rs := [6]) (by kernel_rfl) (by simp) ?_;refine callH 6 (some 89) rfl rfl (by rfl) (args := #[.agg #[.int .i64 ku, .int .i64 mu, .string xu, .slice Alu nlu clu, .slice Aku nku cku], .string sp]) (by go_simp) (HFd.out _ hH2) (fun e w4 hR => ?_) ?_
    ·obtain ⟨val, er, rfl, hv4, hb4⟩ := hR;obtain ⟨kr, mr, xr, lr, ksr, nlr, nkr, Alr, Akr, clr, ckr, rfl, hnlr, hnkr, hNr, hlr, hkr⟩ := hv4;have hH4 := And.intro (hH2.1.below hb4) (hH2.2.below hb4 hH2.2.lt);refine ⟨_, rfl, hH4, ?_⟩;simp only [Act.put, aQ, aZ, aC];refine tk 7 82 (.tuple #[.agg #[.int .i64 kr, .int .i64 mr, .string xr, .slice Alr nlr clr, .slice Akr nkr ckr], .int .i64 er]) rfl hH4 ?_;refine tk 8 90 (.agg #[.int .i64 kr, .int .i64 mr, .string xr, .slice Alr nlr clr, .slice Akr nkr ckr]) rfl hH4 ?_;refine tk 9 91 (.int .i64 er) rfl hH4 ?_;have HBt4 := hid (HBt.out.below hb4 HBt.out.lt);refine wpAnyH_ready (rs := [11]) (by kernel_rfl) (by simp) ?_;refine storeH 11 (g := gt) (l := [.int .i64 kr, .int .i64 mr, .string xr, .slice Alr nlr clr, .slice Akr nkr ckr]) rfl rfl (by rfl) _ _ rfl rfl rfl HBt4.out rfl rfl uValue ?_ AllReadyH.nil;have hS9 : AS B pt w [r0, r1, r2, r3, r4, d0, d1, d2, d3, d4, .slice Av nv cv] [.int .i64 ak, .string anm, .slice (some ap) np cp, .int .i64 an, .string ax] (w4.setCells gt 0 [.int .i64 kr, .int .i64 mr, .string xr, .slice Alr nlr clr, .slice Akr nkr ckr]) := as_far hH4.1 (by omega) hgt HB.out trivial;have hv9 : VdV 1048583 B (.agg #[.int .i64 kr, .int .i64 mr, .string xr, .slice Alr nlr clr, .slice Akr nkr ckr]) (w4.setCells gt 0 [.int .i64 kr, .int .i64 mr, .string xr, .slice Alr nlr clr, .slice Akr nkr ckr]) := VdV.keep ⟨kr, mr, xr, lr, ksr, nlr, nkr, Alr, Akr, clr, ckr, rfl, hnlr, hnkr, hNr, hlr, hkr⟩ (below_setCells _ (by have := HB.out; omega));have hb9 := HBt4.out.put (vs := [.int .i64 kr, .int .i64 mr, .string xr, .slice Alr nlr clr, .slice Akr nkr ckr]) rfl;have hu9 := hH4.2.farC (show pt + 3 ≠ gt by omega) 0 [.int .i64 kr, .int .i64 mr, .string xr, .slice Alr nlr clr, .slice Akr nkr ckr];refine ⟨⟨hS9, hu9⟩, ?_⟩;refine tk 12 11 (.int .i64 er) rfl (And.intro hS9 hu9) ?_;refine wpAnyH_done (by kernel_rfl) ?_ _;(try simp only [Exit.then]);go_wp2_with fail
     go_meet;exact ⟨gt, er, _, _, _, _, _, rfl, rfl, hgt, hS9, hb9, hv9⟩
    exact AllReadyH.nil
   obtain ⟨gt, er, z0, z1, z2, z3, z4, rfl, rfl, hgt, hS4, hb4, hv4⟩ := hcut;obtain ⟨W5, rfl⟩ := xS wc;have HS5 := hid hS4;have Hb5 := hid hb4;have Hv5 := hid hv4;clear hS4 hb4 hv4 HS3 Hvb HFd Ha2;obtain ⟨qe, hqe⟩ := xE (er != 0);cases qe
   ·go_upto_region 31 with fail
    refine wp_region_lit ?_;refine ld [z0, z1, z2, z3, z4] Hb5.out ?_;obtain ⟨u0, u1, u2, u3, u4, hvb, -⟩ := HS5.out.v;refine stI [z0, z1, z2, z3, z4] hvb rfl (vd_one Hv5.out) uValue ?_;refine wpList_nil ?_;(try simp only [Exit.then]);have hS6 := HS5.out.putV hsz (by have := HB.out; omega) Hv5.out;go_wp2_with fail
    go_roundw
    case rel => exact ⟨j + 1, by go_num, by omega, hS6⟩
    simp [intOf]; omega
   go_upto_region 30 with fail
   refine wp_region_lit ?_;refine mv (.agg #[.int .i64 0, .int .i64 0, .string ⟨#[]⟩, .slice none 0 0, .slice none 0 0]) ?_;refine mv (.int .i64 er) ?_;refine st [.int .i64 0, .int .i64 0, .string ⟨#[]⟩, .slice none 0 0, .slice none 0 0] HS5.out.r ?_;refine mv (.int .i64 er) ?_;refine xn ?_;refine rc1 (pt + 2) (Blk.put (vs := [.int .i64 0, .int .i64 0, .string ⟨#[]⟩, .slice none 0 0, .slice none 0 0]) HS5.out.r rfl) ?_;exact pve_put (VdV.zero (by omega)) HS5.out.hb (by omega) HB.out _
  have hli : ¬ ((j : Int) < (np : Int)) := by omega
  clear hlt;obtain rfl : j = np := by omega
  obtain ⟨u0, u1, u2, u3, u4, hvb, hvd3⟩ := HS3.out.v;obtain ⟨ku, mu, xu, lu_, ksu, nlu, nku, Alu, Aku, clu, cku, rfl, rfl, rfl, rfl, rfl, hnlu, hnku, hNu, hlu, hku⟩ := hvd3.parts;go_upto_region 32 with fail
  refine wp_region_lit ?_;refine ld [.int .i64 ku, .int .i64 mu, .string xu, .slice Alu nlu clu, .slice Aku nku cku] hvb ?_;refine st [.int .i64 ku, .int .i64 mu, .string xu, .slice Alu nlu clu, .slice Aku nku cku] HS3.out.r ?_;refine mv (.int .i64 0) ?_;refine xn ?_;refine rc1 (pt + 2) (Blk.put (vs := [.int .i64 ku, .int .i64 mu, .string xu, .slice Alu nlu clu, .slice Aku nku cku]) HS3.out.r rfl) ?_;exact pve_put ⟨ku, mu, xu, lu_, ksu, nlu, nku, Alu, Aku, clu, cku, rfl, hnlu, hnku, hNu, hlu, hku⟩ HS3.out.hb (by omega) HB.out _
 cases q2
 case true =>
  have hrone : ([r0, r1, r2, r3, r4] : List Value).all (·.oneCell') = true := vd_one Hvr.out;have e0 := (HS2.out.e.cell 0).trans rfl;have e1 := (HS2.out.e.cell 1).trans rfl;have e2 := (HS2.out.e.cell 2).trans rfl;have e3 := (HS2.out.e.cell 3).trans rfl;have e4 := (HS2.out.e.cell 4).trans rfl;go_upto_region 6 with fail
  refine wp_region_lit ?_;refine mv (.pointer (some ⟨pt, 0, none⟩)) ?_;refine mv (.agg #[r0, r1, r2, r3, r4]) ?_;clear e0 e1 e2 e3 e4;obtain ⟨u0, u1, u2, u3, u4, hvb, -⟩ := HS2.out.v;refine stI [r0, r1, r2, r3, r4] hvb rfl hrone uValue ?_;refine wpList_nil ?_;(try simp only [Exit.then]);have HS4 := hid (HS2.out.putV hsz (by have := HB.out; omega) (Hvr.out.below HS2.out.hb));obtain ⟨W4, hW4⟩ := xE (W2.setCells (pt + 3) 0 [r0, r1, r2, r3, r4]);rw [hW4] at HS4 ⊢;clear hW4 hvb hrone HS2;have a1 := (HS4.out.a.cell 1).trans rfl;obtain ⟨qe, hqe⟩ := xE anm.toList.isEmpty;go_upto_region 8 with fail
  clear a1;go_wp2_with fail
  go_loopw [7, 8] (fun is i wr => ∃ (b : Bool) (j : Nat), is = .bool b /\ i = .int .i64 (j : Int) /\ j <= nv /\ AS B pt w [r0, r1, r2, r3, r4, d0, d1, d2, d3, d4, .slice Av nv cv] [.int .i64 ak, .string anm, .slice Ap np cp, .int .i64 an, .string ax] wr) (fun _ i _ => nv - (intOf i).toNat)
  case atStart => exact ⟨_, 0, rfl, rfl, Nat.zero_le _, HS4.out⟩
  obtain ⟨b, j, rfl, rfl, hj, hS⟩ := hrel;obtain ⟨W5, rfl⟩ := xS wr;have HS5 := hid hS;clear hS HS4;have hj0 : (0 : Int) <= (j : Int) := by omega
  have e10 := (HS5.out.e.cell 10).trans rfl;have a1 := (HS5.out.a.cell 1).trans rfl;by_cases hlt : j < nv /\ qe = false
  ·obtain ⟨hlt, rfl⟩ := hlt;have hli : (j : Int) < (nv : Int) := by omega
   obtain ⟨ad, vnm, v0, v1, v2, v3, v4, rfl, ⟨cs, fr, hty⟩, hva, hvv⟩ := Hvs.out.below HS5.out.hb j hlt;obtain ⟨n0, f0, f1, f2, f3, f4⟩ := hva;have Hvv := hid hvv;clear hvv hty;obtain ⟨qs, hqs⟩ := xE (vnm.toList == anm.toList);go_upto_region 11 with fail
   go_cut [46] from 26 to 52 (fun c (wx : World) => c = .bool qs /\ ∃ n, wx = W5.drewN n)
   case first => as_aux_lemma =>
    clear f0 f1 f2 f3 f4;go_quiet (fail)
    go_wp2_with fail
    go_meet;exact ⟨rfl, nq, rfl⟩
   obtain ⟨rfl, nq, hwc⟩ := hcut;have HS6 : Hid (AS B pt w [r0, r1, r2, r3, r4, d0, d1, d2, d3, d4, .slice (some ad) nv cv] [.int .i64 ak, .string anm, .slice Ap np cp, .int .i64 an, .string ax] wc) := hid (by rw [hwc]; exact HS5.out.below (below_drewN (Below.refl _ _) _));replace e10 : wc.cell? ⟨pt, 10, none⟩ = some (.slice (some ad) nv cv) := by rw [hwc]; exact e10
   replace f0 : wc.cell? ⟨(ad.add (j * 6)).block, (ad.add (j * 6)).off + 1, none⟩ = some v0 := by rw [hwc]; exact f0
   replace f1 : wc.cell? ⟨(ad.add (j * 6)).block, (ad.add (j * 6)).off + 2, none⟩ = some v1 := by rw [hwc]; exact f1
   replace f2 : wc.cell? ⟨(ad.add (j * 6)).block, (ad.add (j * 6)).off + 3, none⟩ = some v2 := by rw [hwc]; exact f2
   replace f3 : wc.cell? ⟨(ad.add (j * 6)).block, (ad.add (j * 6)).off + 4, none⟩ = some v3 := by rw [hwc]; exact f3
   replace f4 : wc.cell? ⟨(ad.add (j * 6)).block, (ad.add (j * 6)).off + 5, none⟩ = some v4 := by rw [hwc]; exact f4
   have Hvv6 : Hid (VdV 1048583 B (.agg #[v0, v1, v2, v3, v4]) wc) := hid (by rw [hwc]; exact Hvv.out.below (below_drewN (Below.refl _ _) _));clear a1 n0 hwc Hvv HS5 hqs;obtain ⟨W6, rfl⟩ := xS wc;cases qs
   ·clear f0 f1 f2 f3 f4 e10;go_wp2_with fail
    go_roundw
    case rel => exact ⟨_, j + 1, rfl, by go_num, by omega, HS6.out⟩
    simp [intOf]; omega
   go_upto_region 12 with fail
   refine wp_region_lit ?_;refine mv (.pointer (some ⟨pt, 10, none⟩)) ?_;refine mv (.slice (some ad) nv cv) ?_;refine mv (.int .i64 (j : Int)) ?_;refine mv (.pointer (some (ad.add (j * 6)))) ?_;refine mv (.pointer (some ⟨(ad.add (j * 6)).block, (ad.add (j * 6)).off + 1, none⟩)) ?_;refine mv (.agg #[v0, v1, v2, v3, v4]) ?_;clear f0 f1 f2 f3 f4 e10;obtain ⟨u0, u1, u2, u3, u4, hvb, -⟩ := HS6.out.v;refine stI [v0, v1, v2, v3, v4] hvb rfl (vd_one Hvv6.out) uValue ?_;refine mv (.bool true) ?_;refine wpList_nil ?_;(try simp only [Exit.then]);have hS7 := HS6.out.putV hsz (by have := HB.out; omega) Hvv6.out;go_wp2_with fail
   go_roundw
   case rel => exact ⟨_, j + 1, rfl, by go_num, by omega, hS7⟩
   simp [intOf]; omega
  have hdec : (decide ((j : Int) < (nv : Int)) && !qe) = false := by
   cases qe
   ·have : ¬ ((j : Int) < (nv : Int)) := fun h => hlt ⟨by omega, rfl⟩
    simp [this]
   simp
  have HS2 := HS5;have hcs : ¬ ((j : Int) < (nv : Int)) ∨ ((j : Int) < (nv : Int)) /\ qe = true := by
   by_cases h : (j : Int) < (nv : Int)
   ·right; refine ⟨h, ?_⟩
    cases qe
    ·exact absurd ⟨by omega, rfl⟩ hlt
    rfl
   exact .inl h
  clear hdec hlt;rcases hcs with hli | ⟨hli, rfl⟩
  all_goals (
   cases b
   ·go_upto_region 14 with fail
    refine wp_region_lit ?_;refine mv (.agg #[.int .i64 0, .int .i64 0, .string ⟨#[]⟩, .slice none 0 0, .slice none 0 0]) ?_;refine st [.int .i64 0, .int .i64 0, .string ⟨#[]⟩, .slice none 0 0, .slice none 0 0] HS2.out.r ?_;refine mv (.int .i64 31) ?_;refine xn ?_;refine rc1 (pt + 2) (Blk.put (vs := [.int .i64 0, .int .i64 0, .string ⟨#[]⟩, .slice none 0 0, .slice none 0 0]) HS2.out.r rfl) ?_;exact pve_put (VdV.zero (by omega)) HS2.out.hb (by omega) HB.out _
   go_upto_region 25 with fail
   clear e10 a1;go_wp2_with fail
   go_loopw [9] (fun i wr => ∃ j : Nat, i = .int .i64 (j : Int) /\ j <= np /\ AS B pt w [r0, r1, r2, r3, r4, d0, d1, d2, d3, d4, .slice Av nv cv] [.int .i64 ak, .string anm, .slice Ap np cp, .int .i64 an, .string ax] wr) (fun i _ => np - (intOf i).toNat)
   case atStart => exact ⟨0, rfl, Nat.zero_le _, HS5.out⟩
   obtain ⟨j, rfl, hj, hS⟩ := hrel;obtain ⟨W3, rfl⟩ := xS wr;have HS3 := hid hS;clear hS HS5 HS2;have hj0 : (0 : Int) <= (j : Int) := by omega
   have a2 := (HS3.out.a.cell 2).trans rfl;by_cases hlt : j < np
   ·have hli : (j : Int) < (np : Int) := by omega
    have hjp : j < path.length := by have := Hnp.out; omega
    obtain ⟨ap, rfl, _, hapl, hrow⟩ := RowsV.get (f := fun x => [Dt.str x]) Hr.out hjp;obtain ⟨sp, hsp⟩ := xE path[j];rw [hsp] at hrow;have p0 := Str.at_ hrow;simp only [Nat.mul_one] at p0;have Hp0 : Hid (∀ W, Below w.heap.size w W -> W.cell? (ap.add j) = some (.string sp)) := hid (fun W hb => (hb.cell (p := ap.add j) (by rw [block_of_add]; exact hapl)).trans p0);have Ha2 : Hid (∀ W, AS B pt w [r0, r1, r2, r3, r4, d0, d1, d2, d3, d4, .slice Av nv cv] [.int .i64 ak, .string anm, .slice (some ap) np cp, .int .i64 an, .string ax] W -> W.cell? ⟨pt + 1, 2, none⟩ = some (.slice (some ap) np cp)) := hid (fun W h => (h.a.cell 2).trans rfl);clear p0 hrow hsp;obtain ⟨u0, u1, u2, u3, u4, hvb, hvd3⟩ := HS3.out.v;obtain ⟨ku, mu, xu, lu_, ksu, nlu, nku, Alu, Aku, clu, cku, rfl, rfl, rfl, rfl, rfl, hnlu, hnku, hNu, hlu, hku⟩ := hvd3.parts;have HFd := hid (fun W (h : AS B pt w [r0, r1, r2, r3, r4, d0, d1, d2, d3, d4, .slice Av nv cv] [.int .i64 ak, .string anm, .slice (some ap) np cp, .int .i64 an, .string ax] W /\ Blk W (pt + 3) 25 #[.int .i64 ku, .int .i64 mu, .string xu, .slice Alu nlu clu, .slice Aku nku cku]) => by
     obtain ⟨_, _, _, _, _, h1, h2⟩ := h.1.v;have h3 := h.2;have e := blk_inj h1 h3;simp only [Array.mk.injEq, List.cons.injEq, and_true] at e;obtain ⟨rfl, rfl, rfl, rfl, rfl⟩ := e;obtain ⟨k, m, x, l, ks, nl, nk, Al, Ak, cl, ck, g0, g1, g2, g3, g4, hnl, hnk, hN, hl, hk⟩ := h2.parts;cases g0; cases g1; cases g2; cases g3; cases g4;exact field04_any 1048583 B ku mu xu l ks nlu nku hnl hnk hN (by omega) Alu Aku clu cku sp W hl hk)
    have Hvb := hid hvb;clear hvb hlu hku;go_upto_region 28 with fail
    clear a2;go_cut [10, 11] from 75 to 96 (fun vx vf (wx : World) => ∃ (gt : Nat) (er : Int) (z0 z1 z2 z3 z4 : Value), vx = .pointer (some ⟨gt, 0, none⟩) /\ vf = .int .i64 er /\ pt + 3 < gt /\ AS B pt w [r0, r1, r2, r3, r4, d0, d1, d2, d3, d4, .slice Av nv cv] [.int .i64 ak, .string anm, .slice (some ap) np cp, .int .i64 an, .string ax] wx /\ Blk wx gt 25 #[z0, z1, z2, z3, z4] /\ VdV 1048583 B (.agg #[z0, z1, z2, z3, z4]) wx)
    case first => as_aux_lemma =>
     refine wp_region_held_drew (S := fun wy => AS B pt w [r0, r1, r2, r3, r4, d0, d1, d2, d3, d4, .slice Av nv cv] [.int .i64 ak, .string anm, .slice (some ap) np cp, .int .i64 an, .string ax] wy /\ Blk wy (pt + 3) 25 #[.int .i64 ku, .int .i64 mu, .string xu, .slice Alu nlu clu, .slice Aku nku cku]) (by kernel_rfl) ⟨HS3.out.below (Below.refl _ _).drew, Hvb.out⟩ (fun hHeld => ?_);obtain ⟨W4, hW4⟩ := xE W3.drew;rw [hW4] at hHeld ⊢;clear hW4;refine tq 0 83 (.agg #[.int .i64 ku, .int .i64 mu, .string xu, .slice Alu nlu clu, .slice Aku nku cku]) rfl (yl [.int .i64 ku, .int .i64 mu, .string xu, .slice Alu nlu clu, .slice Aku nku cku] (fun w h => h.2)) hHeld ?_;refine tk 1 84 (.pointer (some ⟨pt + 1, 2, none⟩)) rfl hHeld ?_;refine tq 2 85 (.slice (some ap) np cp) rfl (yc (pt + 1) 2 fun w h => Ha2.out w h.1) hHeld ?_;refine tk 3 86 (.int .i64 (j : Int)) rfl hHeld ?_;refine tk 4 87 (.pointer (some (ap.add j))) rfl hHeld ?_;refine tq 5 88 (.string sp) rfl (yields_run (by rfl) (fun wy h => by have hc := Hp0.out wy h.1.hb; go_simp)) hHeld ?_;refine wpAnyH_ready (rs := [6, 10]) (by kernel_rfl) (by simp) ?_;refine callH 6 (some 89) rfl rfl (by rfl) (args := #[.agg #[.int .i64 ku, .int .i64 mu, .string xu, .slice Alu nlu clu, .slice Aku nku cku], .string sp]) (by go_simp) (HFd.out _ hHeld) (fun e w4 hR => ?_) ?_
     ·obtain ⟨val, er, rfl, hv4, hb4⟩ := hR;obtain ⟨kr, mr, xr, lr, ksr, nlr, nkr, Alr, Akr, clr, ckr, rfl, hnlr, hnkr, hNr, hlr, hkr⟩ := hv4;have hH4 := And.intro (hHeld.1.below hb4) (hHeld.2.below hb4 hHeld.2.lt);refine ⟨_, rfl, hH4, ?_⟩;simp only [Act.put, aQ, aZ, aC];refine tk 7 82 (.tuple #[.agg #[.int .i64 kr, .int .i64 mr, .string xr, .slice Alr nlr clr, .slice Akr nkr ckr], .int .i64 er]) rfl hH4 ?_;refine tk 8 90 (.agg #[.int .i64 kr, .int .i64 mr, .string xr, .slice Alr nlr clr, .slice Akr nkr ckr]) rfl hH4 ?_;refine tk 9 91 (.int .i64 er) rfl hH4 ?_;refine wpAnyH_ready (rs := [10]) (by kernel_rfl) (by simp) ?_;refine valH 10 (some 10) rfl rfl (by rfl) (.pointer (some ⟨w4.heap.size, 0, none⟩)) (w4.alloc (.cells #[.int .i64 0, .int .i64 0, .string ⟨#[]⟩, .slice none 0 0, .slice none 0 0] 25)) (by go_simp) ?_ AllReadyH.nil;have hal : Below w4.heap.size w4 (w4.alloc (.cells #[.int .i64 0, .int .i64 0, .string ⟨#[]⟩, .slice none 0 0, .slice none 0 0] 25)) := alloc_below _ _;have HBt : Hid (Blk (w4.alloc (.cells #[.int .i64 0, .int .i64 0, .string ⟨#[]⟩, .slice none 0 0, .slice none 0 0] 25)) w4.heap.size 25 #[.int .i64 0, .int .i64 0, .string ⟨#[]⟩, .slice none 0 0, .slice none 0 0]) := hid (Blk.new _ _ _);have hgt : pt + 3 < w4.heap.size := hH4.2.lt;have hH2 := And.intro (hH4.1.below hal) (hH4.2.below hal hH4.2.lt);have hvx : VdV 1048583 B (.agg #[.int .i64 kr, .int .i64 mr, .string xr, .slice Alr nlr clr, .slice Akr nkr ckr]) (w4.alloc (.cells #[.int .i64 0, .int .i64 0, .string ⟨#[]⟩, .slice none 0 0, .slice none 0 0] 25)) := VdV.below ⟨kr, mr, xr, lr, ksr, nlr, nkr, Alr, Akr, clr, ckr, rfl, hnlr, hnkr, hNr, hlr, hkr⟩ hal;refine ⟨hH2, ?_⟩;simp only [Act.put, aQ, aZ, aC];obtain ⟨w4x, hWx⟩ := xE (w4.alloc (.cells #[.int .i64 0, .int .i64 0, .string ⟨#[]⟩, .slice none 0 0, .slice none 0 0] 25));obtain ⟨gt, hgtx⟩ := xE w4.heap.size;rw [hWx] at HBt hH2 hvx ⊢;rw [hgtx] at HBt hgt ⊢;clear hWx hgtx hal;refine wpAnyH_ready (rs := [11]) (by kernel_rfl) (by simp) ?_;refine storeH 11 (g := gt) (l := [.int .i64 kr, .int .i64 mr, .string xr, .slice Alr nlr clr, .slice Akr nkr ckr]) rfl rfl (by rfl) _ _ rfl rfl rfl HBt.out rfl rfl uValue ?_ AllReadyH.nil;have hS9 : AS B pt w [r0, r1, r2, r3, r4, d0, d1, d2, d3, d4, .slice Av nv cv] [.int .i64 ak, .string anm, .slice (some ap) np cp, .int .i64 an, .string ax] (w4x.setCells gt 0 [.int .i64 kr, .int .i64 mr, .string xr, .slice Alr nlr clr, .slice Akr nkr ckr]) := as_far hH2.1 (by omega) hgt HB.out trivial;have hv9 : VdV 1048583 B (.agg #[.int .i64 kr, .int .i64 mr, .string xr, .slice Alr nlr clr, .slice Akr nkr ckr]) (w4x.setCells gt 0 [.int .i64 kr, .int .i64 mr, .string xr, .slice Alr nlr clr, .slice Akr nkr ckr]) := VdV.keep hvx (below_setCells _ (by have := HB.out; omega));have hb9 := HBt.out.put (vs := [.int .i64 kr, .int .i64 mr, .string xr, .slice Alr nlr clr, .slice Akr nkr ckr]) rfl;have hu9 := hH2.2.farC (show pt + 3 ≠ gt by omega) 0 [.int .i64 kr, .int .i64 mr, .string xr, .slice Alr nlr clr, .slice Akr nkr ckr];refine ⟨⟨hS9, hu9⟩, ?_⟩;refine tk 12 11 (.int .i64 er) rfl (And.intro hS9 hu9) ?_;refine wpAnyH_done (by kernel_rfl) ?_ _;(try simp only [Exit.then]);go_wp2_with fail
      go_meet;exact ⟨gt, er, _, _, _, _, _, rfl, rfl, hgt, hS9, hb9, hv9⟩
     refine valH 10 (some 10) rfl rfl (by rfl) (.pointer (some ⟨W4.heap.size, 0, none⟩)) (W4.alloc (.cells #[.int .i64 0, .int .i64 0, .string ⟨#[]⟩, .slice none 0 0, .slice none 0 0] 25)) (by go_simp) ?_ AllReadyH.nil;have hal : Below W4.heap.size W4 (W4.alloc (.cells #[.int .i64 0, .int .i64 0, .string ⟨#[]⟩, .slice none 0 0, .slice none 0 0] 25)) := alloc_below _ _;have HBt : Hid (Blk (W4.alloc (.cells #[.int .i64 0, .int .i64 0, .string ⟨#[]⟩, .slice none 0 0, .slice none 0 0] 25)) W4.heap.size 25 #[.int .i64 0, .int .i64 0, .string ⟨#[]⟩, .slice none 0 0, .slice none 0 0]) := hid (Blk.new _ _ _);have hgt : pt + 3 < W4.heap.size := hHeld.2.lt;have hH2 := And.intro (hHeld.1.below hal) (hHeld.2.below hal hHeld.2.lt);refine ⟨hH2, ?_⟩;simp only [Act.put, aQ, aZ, aC];obtain ⟨W4x, hWx⟩ := xE (W4.alloc (.cells #[.int .i64 0, .int .i64 0, .string ⟨#[]⟩, .slice none 0 0, .slice none 0 0] 25));obtain ⟨gt, hgtx⟩ := xE W4.heap.size;rw [hWx] at HBt hH2 ⊢;rw [hgtx] at HBt hgt ⊢;clear hWx hgtx hal;refine wpAnyH_ready (rs := [6]) (by kernel_rfl) (by simp) ?_;refine callH 6 (some 89) rfl rfl (by rfl) (args := #[.agg #[.int .i64 ku, .int .i64 mu, .string xu, .slice Alu nlu clu, .slice Aku nku cku], .string sp]) (by go_simp) (HFd.out _ hH2) (fun e w4 hR => ?_) ?_
     ·obtain ⟨val, er, rfl, hv4, hb4⟩ := hR;obtain ⟨kr, mr, xr, lr, ksr, nlr, nkr, Alr, Akr, clr, ckr, rfl, hnlr, hnkr, hNr, hlr, hkr⟩ := hv4;have hH4 := And.intro (hH2.1.below hb4) (hH2.2.below hb4 hH2.2.lt);refine ⟨_, rfl, hH4, ?_⟩;simp only [Act.put, aQ, aZ, aC];refine tk 7 82 (.tuple #[.agg #[.int .i64 kr, .int .i64 mr, .string xr, .slice Alr nlr clr, .slice Akr nkr ckr], .int .i64 er]) rfl hH4 ?_;refine tk 8 90 (.agg #[.int .i64 kr, .int .i64 mr, .string xr, .slice Alr nlr clr, .slice Akr nkr ckr]) rfl hH4 ?_;refine tk 9 91 (.int .i64 er) rfl hH4 ?_;have HBt4 := hid (HBt.out.below hb4 HBt.out.lt);refine wpAnyH_ready (rs := [11]) (by kernel_rfl) (by simp) ?_;refine storeH 11 (g := gt) (l := [.int .i64 kr, .int .i64 mr, .string xr, .slice Alr nlr clr, .slice Akr nkr ckr]) rfl rfl (by rfl) _ _ rfl rfl rfl HBt4.out rfl rfl uValue ?_ AllReadyH.nil;have hS9 : AS B pt w [r0, r1, r2, r3, r4, d0, d1, d2, d3, d4, .slice Av nv cv] [.int .i64 ak, .string anm, .slice (some ap) np cp, .int .i64 an, .string ax] (w4.setCells gt 0 [.int .i64 kr, .int .i64 mr, .string xr, .slice Alr nlr clr, .slice Akr nkr ckr]) := as_far hH4.1 (by omega) hgt HB.out trivial;have hv9 : VdV 1048583 B (.agg #[.int .i64 kr, .int .i64 mr, .string xr, .slice Alr nlr clr, .slice Akr nkr ckr]) (w4.setCells gt 0 [.int .i64 kr, .int .i64 mr, .string xr, .slice Alr nlr clr, .slice Akr nkr ckr]) := VdV.keep ⟨kr, mr, xr, lr, ksr, nlr, nkr, Alr, Akr, clr, ckr, rfl, hnlr, hnkr, hNr, hlr, hkr⟩ (below_setCells _ (by have := HB.out; omega));have hb9 := HBt4.out.put (vs := [.int .i64 kr, .int .i64 mr, .string xr, .slice Alr nlr clr, .slice Akr nkr ckr]) rfl;have hu9 := hH4.2.farC (show pt + 3 ≠ gt by omega) 0 [.int .i64 kr, .int .i64 mr, .string xr, .slice Alr nlr clr, .slice Akr nkr ckr];refine ⟨⟨hS9, hu9⟩, ?_⟩;refine tk 12 11 (.int .i64 er) rfl (And.intro hS9 hu9) ?_;refine wpAnyH_done (by kernel_rfl) ?_ _;(try simp only [Exit.then]);go_wp2_with fail
      go_meet;exact ⟨gt, er, _, _, _, _, _, rfl, rfl, hgt, hS9, hb9, hv9⟩
     exact AllReadyH.nil
    obtain ⟨gt, er, z0, z1, z2, z3, z4, rfl, rfl, hgt, hS4, hb4, hv4⟩ := hcut;obtain ⟨W5, rfl⟩ := xS wc;have HS5 := hid hS4;have Hb5 := hid hb4;have Hv5 := hid hv4;clear hS4 hb4 hv4 HS3 Hvb HFd Ha2;obtain ⟨qe, hqe⟩ := xE (er != 0);cases qe
    ·go_upto_region 31 with fail
     refine wp_region_lit ?_;refine ld [z0, z1, z2, z3, z4] Hb5.out ?_;obtain ⟨u0, u1, u2, u3, u4, hvb, -⟩ := HS5.out.v;refine stI [z0, z1, z2, z3, z4] hvb rfl (vd_one Hv5.out) uValue ?_;refine wpList_nil ?_;(try simp only [Exit.then]);have hS6 := HS5.out.putV hsz (by have := HB.out; omega) Hv5.out;go_wp2_with fail
     go_roundw
     case rel => exact ⟨j + 1, by go_num, by omega, hS6⟩
     simp [intOf]; omega
    go_upto_region 30 with fail
    refine wp_region_lit ?_;refine mv (.agg #[.int .i64 0, .int .i64 0, .string ⟨#[]⟩, .slice none 0 0, .slice none 0 0]) ?_;refine mv (.int .i64 er) ?_;refine st [.int .i64 0, .int .i64 0, .string ⟨#[]⟩, .slice none 0 0, .slice none 0 0] HS5.out.r ?_;refine mv (.int .i64 er) ?_;refine xn ?_;refine rc1 (pt + 2) (Blk.put (vs := [.int .i64 0, .int .i64 0, .string ⟨#[]⟩, .slice none 0 0, .slice none 0 0]) HS5.out.r rfl) ?_;exact pve_put (VdV.zero (by omega)) HS5.out.hb (by omega) HB.out _
   have hli : ¬ ((j : Int) < (np : Int)) := by omega
   clear hlt;obtain rfl : j = np := by omega
   obtain ⟨u0, u1, u2, u3, u4, hvb, hvd3⟩ := HS3.out.v;obtain ⟨ku, mu, xu, lu_, ksu, nlu, nku, Alu, Aku, clu, cku, rfl, rfl, rfl, rfl, rfl, hnlu, hnku, hNu, hlu, hku⟩ := hvd3.parts;go_upto_region 32 with fail
   refine wp_region_lit ?_;refine ld [.int .i64 ku, .int .i64 mu, .string xu, .slice Alu nlu clu, .slice Aku nku cku] hvb ?_;refine st [.int .i64 ku, .int .i64 mu, .string xu, .slice Alu nlu clu, .slice Aku nku cku] HS3.out.r ?_;refine mv (.int .i64 0) ?_;refine xn ?_;refine rc1 (pt + 2) (Blk.put (vs := [.int .i64 ku, .int .i64 mu, .string xu, .slice Alu nlu clu, .slice Aku nku cku]) HS3.out.r rfl) ?_;exact pve_put ⟨ku, mu, xu, lu_, ksu, nlu, nku, Alu, Aku, clu, cku, rfl, hnlu, hnku, hNu, hlu, hku⟩ HS3.out.hb (by omega) HB.out _)
 cases q3
 case true =>
  have a3 := (HS2.out.a.cell 3).trans rfl;go_upto_region 16 with fail
  refine wp_region_lit ?_;refine mv (.pointer (some ⟨pt + 1, 3, none⟩)) ?_;refine mv (.int .i64 an) ?_;refine wpl_enter (some 60) rfl rfl (by go_simp) (HIn.out _) ?_;rintro e w5 ⟨val, rfl, hv5, hb5⟩;obtain ⟨kr, mr, xr, lr, ksr, nlr, nkr, Alr, Akr, clr, ckr, rfl, hnlr, hnkr, hNr, hlr, hkr⟩ := hv5;have HS5 := hid (HS2.out.below hb5);refine ⟨_, rfl, ?_⟩;simp only [Act.put, aQ, aZ, aC];refine st [.int .i64 kr, .int .i64 mr, .string xr, .slice Alr nlr clr, .slice Akr nkr ckr] HS5.out.r ?_;refine mv (.int .i64 0) ?_;refine xn ?_;refine rc1 (pt + 2) (Blk.put (vs := [.int .i64 kr, .int .i64 mr, .string xr, .slice Alr nlr clr, .slice Akr nkr ckr]) HS5.out.r rfl) ?_;exact pve_put (VdV.mono ⟨kr, mr, xr, lr, ksr, nlr, nkr, Alr, Akr, clr, ckr, rfl, hnlr, hnkr, hNr, hlr, hkr⟩ (by omega)) HS5.out.hb (by omega) HB.out _
 cases q4
 case true =>
  have a4 := (HS2.out.a.cell 4).trans rfl;go_upto_region 18 with fail
  refine wp_region_lit ?_;refine mv (.pointer (some ⟨pt + 1, 4, none⟩)) ?_;refine mv (.string ax) ?_;refine wpl_enter (some 65) rfl rfl (by go_simp) (HTx.out _) ?_;rintro e w5 ⟨val, rfl, hv5, hb5⟩;obtain ⟨kr, mr, xr, lr, ksr, nlr, nkr, Alr, Akr, clr, ckr, rfl, hnlr, hnkr, hNr, hlr, hkr⟩ := hv5;have HS5 := hid (HS2.out.below hb5);refine ⟨_, rfl, ?_⟩;simp only [Act.put, aQ, aZ, aC];refine st [.int .i64 kr, .int .i64 mr, .string xr, .slice Alr nlr clr, .slice Akr nkr ckr] HS5.out.r ?_;refine mv (.int .i64 0) ?_;refine xn ?_;refine rc1 (pt + 2) (Blk.put (vs := [.int .i64 kr, .int .i64 mr, .string xr, .slice Alr nlr clr, .slice Akr nkr ckr]) HS5.out.r rfl) ?_;exact pve_put (VdV.mono ⟨kr, mr, xr, lr, ksr, nlr, nkr, Alr, Akr, clr, ckr, rfl, hnlr, hnkr, hNr, hlr, hkr⟩ (by omega)) HS5.out.hb (by omega) HB.out _
 cases q5
 case true =>
  go_upto_region 20 with fail
  refine wp_region_lit ?_;refine wpl_enter (some 68) rfl rfl (by go_simp) (HT6.out true _) ?_;rintro e w5 ⟨val, rfl, hv5, hb5⟩;obtain ⟨kr, mr, xr, lr, ksr, nlr, nkr, Alr, Akr, clr, ckr, rfl, hnlr, hnkr, hNr, hlr, hkr⟩ := hv5;have HS5 := hid (HS2.out.below hb5);refine ⟨_, rfl, ?_⟩;simp only [Act.put, aQ, aZ, aC];refine st [.int .i64 kr, .int .i64 mr, .string xr, .slice Alr nlr clr, .slice Akr nkr ckr] HS5.out.r ?_;refine mv (.int .i64 0) ?_;refine xn ?_;refine rc1 (pt + 2) (Blk.put (vs := [.int .i64 kr, .int .i64 mr, .string xr, .slice Alr nlr clr, .slice Akr nkr ckr]) HS5.out.r rfl) ?_;exact pve_put (VdV.mono ⟨kr, mr, xr, lr, ksr, nlr, nkr, Alr, Akr, clr, ckr, rfl, hnlr, hnkr, hNr, hlr, hkr⟩ (by omega)) HS5.out.hb (by omega) HB.out _
 cases q6
 case true =>
  go_upto_region 22 with fail
  refine wp_region_lit ?_;refine wpl_enter (some 71) rfl rfl (by go_simp) (HT6.out false _) ?_;rintro e w5 ⟨val, rfl, hv5, hb5⟩;obtain ⟨kr, mr, xr, lr, ksr, nlr, nkr, Alr, Akr, clr, ckr, rfl, hnlr, hnkr, hNr, hlr, hkr⟩ := hv5;have HS5 := hid (HS2.out.below hb5);refine ⟨_, rfl, ?_⟩;simp only [Act.put, aQ, aZ, aC];refine st [.int .i64 kr, .int .i64 mr, .string xr, .slice Alr nlr clr, .slice Akr nkr ckr] HS5.out.r ?_;refine mv (.int .i64 0) ?_;refine xn ?_;refine rc1 (pt + 2) (Blk.put (vs := [.int .i64 kr, .int .i64 mr, .string xr, .slice Alr nlr clr, .slice Akr nkr ckr]) HS5.out.r rfl) ?_;exact pve_put (VdV.mono ⟨kr, mr, xr, lr, ksr, nlr, nkr, Alr, Akr, clr, ckr, rfl, hnlr, hnkr, hNr, hlr, hkr⟩ (by omega)) HS5.out.hb (by omega) HB.out _
 cases q7
 case true =>
  go_upto_region 24 with fail
  refine wp_region_lit ?_;refine mv (.agg #[.int .i64 0, .int .i64 0, .string ⟨#[]⟩, .slice none 0 0, .slice none 0 0]) ?_;refine st [.int .i64 0, .int .i64 0, .string ⟨#[]⟩, .slice none 0 0, .slice none 0 0] HS2.out.r ?_;refine mv (.int .i64 0) ?_;refine xn ?_;refine rc1 (pt + 2) (Blk.put (vs := [.int .i64 0, .int .i64 0, .string ⟨#[]⟩, .slice none 0 0, .slice none 0 0]) HS2.out.r rfl) ?_;exact pve_put (VdV.zero (by omega)) HS2.out.hb (by omega) HB.out _
 go_upto_region 3 with fail
 refine wp_region_lit ?_
 refine mv (.agg #[.int .i64 0, .int .i64 0, .string ⟨#[]⟩, .slice none 0 0, .slice none 0 0]) ?_
 refine st [.int .i64 0, .int .i64 0, .string ⟨#[]⟩, .slice none 0 0, .slice none 0 0] HS2.out.r ?_
 refine mv (.int .i64 9) ?_
 refine xn ?_
 refine rc1 (pt + 2) (Blk.put (vs := [.int .i64 0, .int .i64 0, .string ⟨#[]⟩, .slice none 0 0, .slice none 0 0]) HS2.out.r rfl) ?_
 exact pve_put (VdV.zero (by omega)) HS2.out.hb (by omega) HB.out _
end Go.Proofs.YtkcnmjdomipbjaaGreat
