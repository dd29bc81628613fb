import Derived.Test.YtkcnmjdomipbjaaGreatS47
set_option linter.unusedVariables false
set_option maxHeartbeats 100000000
set_option maxRecDepth 100000
namespace Go.Proofs.YtkcnmjdomipbjaaGreat
open Go.RowKit
structure ArgsV (B : Nat) (A : Option Addr) (n : Nat) (l : List Vd) (w : World) : Prop where
 len : l.length = n
 wt : ∀ v ∈ l, v.wt <= 1048583
 rows : RowsV w (fun _ => True) 5 A 0 (vdRows l)
 at_ : ∀ i, i < n -> ∃ ad v0 v1 v2 v3 v4, A = some ad /\ ad.block < w.heap.size /\ VAt (ad.add (i * 5)) v0 v1 v2 v3 v4 w /\ VdV 1048583 B (.agg #[v0, v1, v2, v3, v4]) w
theorem VdV.parts {N B : Nat} {v0 v1 v2 v3 v4 : Value} {w : World} (h : VdV N B (.agg #[v0, v1, v2, v3, v4]) w) : ∃ (k m : Int) (x : ByteArray) (l : List Vd) (ks : List ByteArray) (nl nk : Nat) (Al Ak : Option Addr) (cl ck : Nat), v0 = .int .i64 k /\ v1 = .int .i64 m /\ v2 = .string x /\ v3 = .slice Al nl cl /\ v4 = .slice Ak nk ck /\ l.length = nl /\ ks.length = nk /\ (Vd.mk k m x l ks).wt <= N /\ RowsV w (fun b => b < B) 5 Al 0 (vdRows l) /\ RowsV w (fun b => b < B) 1 Ak 0 (strRows ks) := by
 obtain ⟨k, m, x, l, ks, nl, nk, Al, Ak, cl, ck, e, h1, h2, h3, h4, h5⟩ := h
 simp only [Value.agg.injEq, Array.mk.injEq, List.cons.injEq, and_true] at e
 obtain ⟨rfl, rfl, rfl, rfl, rfl⟩ := e
 exact ⟨k, m, x, l, ks, nl, nk, Al, Ak, cl, ck, rfl, rfl, rfl, rfl, rfl, h1, h2, h3, h4, h5⟩
theorem ArgsV.below {B : Nat} {A : Option Addr} {n : Nat} {l : List Vd} {w w' : World} (h : ArgsV B A n l w) (hb : Below w.heap.size w w') : ArgsV B A n l w' :=
 ⟨h.len, h.wt, h.rows.below hb, fun i hi => by
  obtain ⟨ad, v0, v1, v2, v3, v4, e, h1, h2, h3⟩ := h.at_ i hi;exact ⟨ad, v0, v1, v2, v3, v4, e, Nat.lt_of_lt_of_le h1 hb.size, h2.below hb (by rw [block_of_add]; exact h1), h3.below hb⟩⟩
theorem vat_at {p q : Addr} {v0 v1 v2 v3 v4 : Value} {w : World} (e : p = q) (h : VAt p v0 v1 v2 v3 v4 w) : VAt q v0 v1 v2 v3 v4 w := e ▸ h
theorem vat_low {B : Nat} {p : Addr} {v0 v1 v2 v3 v4 : Value} {w w' : World} (h : VAt p v0 v1 v2 v3 v4 w) (hb : Below B w w') (hp : p.block < B) : VAt p v0 v1 v2 v3 v4 w' :=
 ⟨(hb.cell (p := p) hp).trans h.1, (hb.cell (p := ⟨p.block, p.off + 1, none⟩) hp).trans h.2.1, (hb.cell (p := ⟨p.block, p.off + 2, none⟩) hp).trans h.2.2.1, (hb.cell (p := ⟨p.block, p.off + 3, none⟩) hp).trans h.2.2.2.1, (hb.cell (p := ⟨p.block, p.off + 4, none⟩) hp).trans h.2.2.2.2⟩
theorem lowS_any (s : ByteArray) (w : World) (hs : s.size <= 1099511627775) : Calls Tryz.prog 86 #[.string s] w (PS s.size w) := by
 refine (refLower_any s w hs).mono ?_
 rintro e w1 ⟨t, rfl, ht, hb⟩
 have h3 := len_data t
 have h4 := len_data s
 have h5 : (low s.data.toList).length = s.data.toList.length := by unfold low; simp
 rw [ht.out] at h3
 exact ⟨t, rfl, by omega, hb⟩
theorem call26_any (B : Nat) (nm : ByteArray) (A : Option Addr) (n c : Nat) (l : List Vd) (w : World) (h : ArgsV B A n l w) (hn : n <= 2097152) (hB : B <= w.heap.size) : Calls Tryz.prog 67 #[.string nm, .slice A n c] w (PVE 1048583 B w) := by
 obtain ⟨W, hW⟩ := xE (w.alloc (.cells #[.int .i64 0, .int .i64 0, .string ⟨#[]⟩, .slice none 0 0, .slice none 0 0] 25))
 have hbw : Below w.heap.size w W := by rw [<- hW]; exact alloc_below _ _
 have HR : Hid (Blk W w.heap.size 25 #[.int .i64 0, .int .i64 0, .string ⟨#[]⟩, .slice none 0 0, .slice none 0 0]) := hid (by rw [<- hW]; exact Blk.new _ _ _)
 have hWz : W.heap.size = w.heap.size + 1 := by rw [<- hW]; simp
 have Hb := hid hbw
 have HA := hid (h.below hbw)
 have HB := hid hB
 have Hadp : Hid (∀ ad, A = some ad -> 0 < n -> ad.block < w.heap.size) := hid (fun ad e h0 => by
  obtain ⟨ad', _, _, _, _, _, e', h1, _, _⟩ := h.at_ 0 h0;rw [e] at e'; cases e'; exact h1)
 have HAr := hid (fun W => arity_any nm W)
 obtain ⟨pt, hpt⟩ := xE w.heap.size
 rw [hpt] at HR hWz Hadp
 clear hbw h
 go_enter Tryz.func67, Tryz.ntmps67
 have hsz := hpt
 go_upto_region 2 with (go_at_call 65; refine (HAr.out _).mono ?_; rintro e w3 ⟨ra, rb, ok, rfl, hok, hw3⟩; obtain rfl := hw3.symm)
 clear hW
 have Hok := hid hok
 clear hok
 cases ok
 case false =>
  go_upto_region 3 with fail
  refine wp_region_lit ?_;refine mv (.agg #[.int .i64 0, .int .i64 0, .string ⟨#[]⟩, .slice none 0 0, .slice none 0 0]) ?_;refine st [.int .i64 0, .int .i64 0, .string ⟨#[]⟩, .slice none 0 0, .slice none 0 0] HR.out ?_;refine mv (.int .i64 31) ?_;refine xn ?_;refine rc1 (pt) (Blk.put (vs := [.int .i64 0, .int .i64 0, .string ⟨#[]⟩, .slice none 0 0, .slice none 0 0]) HR.out rfl) ?_;exact pve_put (VdV.zero (by omega)) Hb.out (by omega) HB.out _
 obtain ⟨ha1, hb8, hor⟩ := Hok.out rfl
 clear Hok
 by_cases hna : (n : Int) < ra
 case pos =>
  go_upto_region 5 with fail
  refine wp_region_lit ?_;refine mv (.agg #[.int .i64 0, .int .i64 0, .string ⟨#[]⟩, .slice none 0 0, .slice none 0 0]) ?_;refine st [.int .i64 0, .int .i64 0, .string ⟨#[]⟩, .slice none 0 0, .slice none 0 0] HR.out ?_;refine mv (.int .i64 3) ?_;refine xn ?_;refine rc1 (pt) (Blk.put (vs := [.int .i64 0, .int .i64 0, .string ⟨#[]⟩, .slice none 0 0, .slice none 0 0]) HR.out rfl) ?_;exact pve_put (VdV.zero (by omega)) Hb.out (by omega) HB.out _
 by_cases hnb : rb < (n : Int)
 case pos =>
  go_upto_region 5 with fail
  refine wp_region_lit ?_;refine mv (.agg #[.int .i64 0, .int .i64 0, .string ⟨#[]⟩, .slice none 0 0, .slice none 0 0]) ?_;refine st [.int .i64 0, .int .i64 0, .string ⟨#[]⟩, .slice none 0 0, .slice none 0 0] HR.out ?_;refine mv (.int .i64 3) ?_;refine xn ?_;refine rc1 (pt) (Blk.put (vs := [.int .i64 0, .int .i64 0, .string ⟨#[]⟩, .slice none 0 0, .slice none 0 0]) HR.out rfl) ?_;exact pve_put (VdV.zero (by omega)) Hb.out (by omega) HB.out _
 have hn1 : 1 <= n := by omega
 have hn8 : n <= 8 := by omega
 have hn0 : (0 : Int) < (n : Int) := by omega
 obtain ⟨ad, v0, v1, v2, v3, v4, rfl, hadl, hvat, hvd⟩ := HA.out.at_ 0 (by omega)
 rw [Nat.zero_mul, addr_zero] at hvat
 obtain ⟨k, m, x, l_, ks, nl, nk, Al, Ak, cl, ck, rfl, rfl, rfl, rfl, rfl, hnl, hnk, hN, hl, hk⟩ := hvd.parts
 obtain ⟨c0, c1, c2, c3, c4⟩ := hvat
 have Hl := hid hl
 have Hk := hid hk
 clear hl hk
 go_upto_region 6 with fail
 refine wp_region_lit ?_
 refine mv (.slice (some ad) n c) ?_
 refine wpl_move (v := .pointer (some ad)) rfl (by go_simp; intro h; omega) ?_
 simp only [Act.put, aQ, aZ, aC]
 refine mv (.agg #[.int .i64 k, .int .i64 m, .string x, .slice Al nl cl, .slice Ak nk ck]) ?_
 refine wpl_val (some 9) (v := .pointer (some ⟨W.heap.size, 0, none⟩)) (w' := W.alloc (.cells #[.int .i64 0, .int .i64 0, .string ⟨#[]⟩, .slice none 0 0, .slice none 0 0] 25)) rfl rfl (by go_simp) ?_
 simp only [Act.put, aQ, aZ, aC]
 have hB9 : Blk (W.alloc (.cells #[.int .i64 0, .int .i64 0, .string ⟨#[]⟩, .slice none 0 0, .slice none 0 0] 25)) W.heap.size 25 #[.int .i64 0, .int .i64 0, .string ⟨#[]⟩, .slice none 0 0, .slice none 0 0] := Blk.new _ _ _
 refine st [.int .i64 k, .int .i64 m, .string x, .slice Al nl cl, .slice Ak nk ck] hB9 ?_
 refine wpList_nil ?_
 (try simp only [Exit.then])
 have hal : Below W.heap.size W (W.alloc (.cells #[.int .i64 0, .int .i64 0, .string ⟨#[]⟩, .slice none 0 0, .slice none 0 0] 25)) := alloc_below _ _
 have hb2 : Below W.heap.size W ((W.alloc (.cells #[.int .i64 0, .int .i64 0, .string ⟨#[]⟩, .slice none 0 0, .slice none 0 0] 25)).setCells W.heap.size 0 [.int .i64 k, .int .i64 m, .string x, .slice Al nl cl, .slice Ak nk ck]) := hal.trans (below_setCells _ (Nat.le_refl _))
 have HX : Hid (Blk ((W.alloc (.cells #[.int .i64 0, .int .i64 0, .string ⟨#[]⟩, .slice none 0 0, .slice none 0 0] 25)).setCells W.heap.size 0 [.int .i64 k, .int .i64 m, .string x, .slice Al nl cl, .slice Ak nk ck]) W.heap.size 25 #[.int .i64 k, .int .i64 m, .string x, .slice Al nl cl, .slice Ak nk ck]) := hid (hB9.put (vs := [.int .i64 k, .int .i64 m, .string x, .slice Al nl cl, .slice Ak nk ck]) rfl)
 obtain ⟨W2, hW2⟩ := xE ((W.alloc (.cells #[.int .i64 0, .int .i64 0, .string ⟨#[]⟩, .slice none 0 0, .slice none 0 0] 25)).setCells W.heap.size 0 [.int .i64 k, .int .i64 m, .string x, .slice Al nl cl, .slice Ak nk ck])
 rw [hW2] at hb2 HX ⊢
 rw [hWz] at HX ⊢
 have HR3 := hid (HR.out.below hb2 HR.out.lt)
 have HA3 := hid (HA.out.below hb2)
 have Hb3 := hid (Hb.out.trans (hb2.mono Hb.out.size))
 have Hl3 := hid (Hl.out.below hb2)
 have Hk3 := hid (Hk.out.below hb2)
 clear hW2 hal hB9 hb2 HR HA Hb Hl Hk c0 c1 c2 c3 c4
 obtain ⟨hx1, -, -⟩ := vwt_text hN
 have HTa := hid (fun W => truth04_any k m x nl nk Al Ak cl ck W)
 have HLn := hid (fun W => len04_any k m x nl nk Al Ak cl ck W)
 have HIn := hid (fun n W => int04_any B n W)
 have HT6 := hid (fun b W => truth26_any B b W)
 have HTx := hid (fun s W => text04_any B s W)
 have HUp := hid (fun W => upper_any x W (by omega))
 have HLo := hid (fun W => lowS_any x W (by omega))
 obtain ⟨qle, hqle⟩ := xE (nm.toList == [108, 101, 110])
 obtain ⟨qno, hqno⟩ := xE (nm.toList == [110, 111, 116])
 obtain ⟨qpr, hqpr⟩ := xE (nm.toList == [112, 114, 105, 110, 116])
 obtain ⟨qup, hqup⟩ := xE (nm.toList == [117, 112, 112, 101, 114])
 obtain ⟨qlo, hqlo⟩ := xE (nm.toList == [108, 111, 119, 101, 114])
 rw [hqle, hqno, hqpr, hqup, hqlo] at hor
 have Hor := hid hor
 clear hor
 cases qle
 case true =>
  go_upto_region 9 with fail
  refine wp_region_lit ?_;refine ld [.int .i64 k, .int .i64 m, .string x, .slice Al nl cl, .slice Ak nk ck] HX.out ?_;refine wpl_enter (some 40) rfl rfl (by go_simp) (HLn.out _) ?_;rintro e w4 ⟨ln, er, rfl, hb4⟩;refine ⟨_, rfl, ?_⟩;simp only [Act.put, aQ, aZ, aC];refine mv (.tuple #[.int .i64 ln, .int .i64 er]) ?_;refine mv (.int .i64 ln) ?_;refine mv (.int .i64 er) ?_;refine mv (.int .i64 ln) ?_;refine mv (.int .i64 er) ?_;refine wpList_nil ?_;(try simp only [Exit.then]);have HR4 := hid (HR3.out.below hb4 HR3.out.lt);have Hb4 := hid (Hb3.out.trans (hb4.mono Hb3.out.size));obtain ⟨qe, hqe⟩ := xE (er != 0);cases qe
  ·go_upto_region 12 with fail
   refine wp_region_lit ?_;refine mv (.int .i64 ln) ?_;refine wpl_enter (some 48) rfl rfl (by go_simp) (HIn.out ln _) ?_;rintro e w5 ⟨val, rfl, hv5, hb5⟩;obtain ⟨kr, mr, xr, lr, ksr, nlr, nkr, Alr, Akr, clr, ckr, rfl, hnlr, hnkr, hNr, hlr, hkr⟩ := hv5;have hb45 := hb4.trans (hb5.mono hb4.size);have HR5 := hid (HR3.out.below hb45 HR3.out.lt);have Hb5 := hid (Hb3.out.trans (hb45.mono Hb3.out.size));refine ⟨_, rfl, ?_⟩;simp only [Act.put, aQ, aZ, aC];refine st [.int .i64 kr, .int .i64 mr, .string xr, .slice Alr nlr clr, .slice Akr nkr ckr] HR5.out ?_;refine mv (.int .i64 0) ?_;refine xn ?_;refine rc1 (pt) (Blk.put (vs := [.int .i64 kr, .int .i64 mr, .string xr, .slice Alr nlr clr, .slice Akr nkr ckr]) HR5.out rfl) ?_;exact pve_put (VdV.mono ⟨kr, mr, xr, lr, ksr, nlr, nkr, Alr, Akr, clr, ckr, rfl, hnlr, hnkr, hNr, hlr, hkr⟩ (by omega)) Hb5.out (by omega) HB.out _
  go_upto_region 11 with fail
  refine wp_region_lit ?_;refine mv (.agg #[.int .i64 0, .int .i64 0, .string ⟨#[]⟩, .slice none 0 0, .slice none 0 0]) ?_;refine mv (.int .i64 er) ?_;refine st [.int .i64 0, .int .i64 0, .string ⟨#[]⟩, .slice none 0 0, .slice none 0 0] HR4.out ?_;refine mv (.int .i64 er) ?_;refine xn ?_;refine rc1 (pt) (Blk.put (vs := [.int .i64 0, .int .i64 0, .string ⟨#[]⟩, .slice none 0 0, .slice none 0 0]) HR4.out rfl) ?_;exact pve_put (VdV.zero (by omega)) Hb4.out (by omega) HB.out _
 cases qno
 case true =>
  go_upto_region 14 with fail
  refine wp_region_lit ?_;refine ld [.int .i64 k, .int .i64 m, .string x, .slice Al nl cl, .slice Ak nk ck] HX.out ?_;refine wpl_enter (some 52) rfl rfl (by go_simp) (HTa.out _) ?_;rintro e w4 ⟨q, rfl, hb4⟩;refine ⟨_, rfl, ?_⟩;simp only [Act.put, aQ, aZ, aC];refine mv (.bool (!q)) ?_;refine wpl_enter (some 54) rfl rfl (by go_simp) (HT6.out (!q) _) ?_;rintro e w5 ⟨val, rfl, hv5, hb5⟩;obtain ⟨kr, mr, xr, lr, ksr, nlr, nkr, Alr, Akr, clr, ckr, rfl, hnlr, hnkr, hNr, hlr, hkr⟩ := hv5;have hb45 := hb4.trans (hb5.mono hb4.size);have HR5 := hid (HR3.out.below hb45 HR3.out.lt);have Hb5 := hid (Hb3.out.trans (hb45.mono Hb3.out.size));refine ⟨_, rfl, ?_⟩;simp only [Act.put, aQ, aZ, aC];refine st [.int .i64 kr, .int .i64 mr, .string xr, .slice Alr nlr clr, .slice Akr nkr ckr] HR5.out ?_;refine mv (.int .i64 0) ?_;refine xn ?_;refine rc1 (pt) (Blk.put (vs := [.int .i64 kr, .int .i64 mr, .string xr, .slice Alr nlr clr, .slice Akr nkr ckr]) HR5.out rfl) ?_;exact pve_put (VdV.mono ⟨kr, mr, xr, lr, ksr, nlr, nkr, Alr, Akr, clr, ckr, rfl, hnlr, hnkr, hNr, hlr, hkr⟩ (by omega)) Hb5.out (by omega) HB.out _
 cases qpr
 case true =>
  have hm : n * (4 * 1048583 + (⟨#[32]⟩ : ByteArray).size) <= 8 * 4194333 := Nat.mul_le_mul hn8 (Nat.le_refl _);have HPr := hid (prints_any 1048583 l n HA3.out.len HA3.out.wt (by omega) ⟨#[32]⟩ (by omega) (some ad) c W2 HA3.out.rows (by omega));clear hm;go_upto_region 16 with fail
  refine wp_region_lit ?_;refine mv (.slice (some ad) n c) ?_;refine wpl_enter (some 58) rfl rfl (by go_simp) HPr.out ?_;rintro e w4 ⟨ts, rfl, hts, hb4⟩;refine ⟨_, rfl, ?_⟩;simp only [Act.put, aQ, aZ, aC];have Hb4 := hid (Hb3.out.trans (hb4.mono Hb3.out.size));refine wpl_enter (some 59) rfl rfl (by go_simp) (madeX B ts w4 (Nat.le_trans HB.out Hb4.out.size)) ?_;rintro e w5 ⟨val, er, rfl, hv5, hb5⟩;obtain ⟨kr, mr, xr, lr, ksr, nlr, nkr, Alr, Akr, clr, ckr, rfl, hnlr, hnkr, hNr, hlr, hkr⟩ := hv5;have hb45 := hb4.trans (hb5.mono hb4.size);have HR5 := hid (HR3.out.below hb45 HR3.out.lt);have Hb5 := hid (Hb3.out.trans (hb45.mono Hb3.out.size));refine ⟨_, rfl, ?_⟩;simp only [Act.put, aQ, aZ, aC];refine mv (.agg #[.int .i64 kr, .int .i64 mr, .string xr, .slice Alr nlr clr, .slice Akr nkr ckr]) ?_;refine mv (.int .i64 er) ?_;refine st [.int .i64 kr, .int .i64 mr, .string xr, .slice Alr nlr clr, .slice Akr nkr ckr] HR5.out ?_;refine mv (.int .i64 er) ?_;refine xn ?_;refine rc1 (pt) (Blk.put (vs := [.int .i64 kr, .int .i64 mr, .string xr, .slice Alr nlr clr, .slice Akr nkr ckr]) HR5.out rfl) ?_;exact pve_put (VdV.mono ⟨kr, mr, xr, lr, ksr, nlr, nkr, Alr, Akr, clr, ckr, rfl, hnlr, hnkr, hNr, hlr, hkr⟩ (by omega)) Hb5.out (by omega) HB.out _
 by_cases hul : qup = true ∨ qlo = true
 case pos =>
  obtain ⟨⟨c0, -, c2, -, -⟩, -⟩ := blk5_cells HX.out;obtain ⟨q4, hq4⟩ := xE (k != 4);cases qup
  ·obtain rfl : qlo = true := by rcases hul with h | h; cases h; exact h
   cases q4
   ·go_upto_region 23 with fail
    refine wp_region_lit ?_;refine mv (.pointer (some ⟨pt + 1, 2, none⟩)) ?_;refine mv (.string x) ?_;refine wpl_enter (some 77) rfl rfl (by go_simp) (HLo.out _) ?_;rintro e w4 ⟨t4, rfl, ht4, hb4⟩;refine ⟨_, rfl, ?_⟩;simp only [Act.put, aQ, aZ, aC];refine wpl_enter (some 78) rfl rfl (by go_simp) (HTx.out t4 _) ?_;rintro e w5 ⟨val, rfl, hv5, hb5⟩;obtain ⟨kr, mr, xr, lr, ksr, nlr, nkr, Alr, Akr, clr, ckr, rfl, hnlr, hnkr, hNr, hlr, hkr⟩ := hv5;have hb45 := hb4.trans (hb5.mono hb4.size);have HR5 := hid (HR3.out.below hb45 HR3.out.lt);have Hb5 := hid (Hb3.out.trans (hb45.mono Hb3.out.size));refine ⟨_, rfl, ?_⟩;simp only [Act.put, aQ, aZ, aC];refine st [.int .i64 kr, .int .i64 mr, .string xr, .slice Alr nlr clr, .slice Akr nkr ckr] HR5.out ?_;refine mv (.int .i64 0) ?_;refine xn ?_;refine rc1 (pt) (Blk.put (vs := [.int .i64 kr, .int .i64 mr, .string xr, .slice Alr nlr clr, .slice Akr nkr ckr]) HR5.out rfl) ?_;exact pve_put (VdV.mono ⟨kr, mr, xr, lr, ksr, nlr, nkr, Alr, Akr, clr, ckr, rfl, hnlr, hnkr, hNr, hlr, hkr⟩ (by omega)) Hb5.out (by omega) HB.out _
   go_upto_region 20 with fail
   refine wp_region_lit ?_;refine mv (.agg #[.int .i64 0, .int .i64 0, .string ⟨#[]⟩, .slice none 0 0, .slice none 0 0]) ?_;refine st [.int .i64 0, .int .i64 0, .string ⟨#[]⟩, .slice none 0 0, .slice none 0 0] HR3.out ?_;refine mv (.int .i64 13) ?_;refine xn ?_;refine rc1 (pt) (Blk.put (vs := [.int .i64 0, .int .i64 0, .string ⟨#[]⟩, .slice none 0 0, .slice none 0 0]) HR3.out rfl) ?_;exact pve_put (VdV.zero (by omega)) Hb3.out (by omega) HB.out _
  cases q4
  ·go_upto_region 22 with fail
   refine wp_region_lit ?_;refine mv (.pointer (some ⟨pt + 1, 2, none⟩)) ?_;refine mv (.string x) ?_;refine wpl_enter (some 73) rfl rfl (by go_simp) (HUp.out _) ?_;rintro e w4 ⟨t4, rfl, ht4, hb4⟩;refine ⟨_, rfl, ?_⟩;simp only [Act.put, aQ, aZ, aC];refine wpl_enter (some 74) rfl rfl (by go_simp) (HTx.out t4 _) ?_;rintro e w5 ⟨val, rfl, hv5, hb5⟩;obtain ⟨kr, mr, xr, lr, ksr, nlr, nkr, Alr, Akr, clr, ckr, rfl, hnlr, hnkr, hNr, hlr, hkr⟩ := hv5;have hb45 := hb4.trans (hb5.mono hb4.size);have HR5 := hid (HR3.out.below hb45 HR3.out.lt);have Hb5 := hid (Hb3.out.trans (hb45.mono Hb3.out.size));refine ⟨_, rfl, ?_⟩;simp only [Act.put, aQ, aZ, aC];refine st [.int .i64 kr, .int .i64 mr, .string xr, .slice Alr nlr clr, .slice Akr nkr ckr] HR5.out ?_;refine mv (.int .i64 0) ?_;refine xn ?_;refine rc1 (pt) (Blk.put (vs := [.int .i64 kr, .int .i64 mr, .string xr, .slice Alr nlr clr, .slice Akr nkr ckr]) HR5.out rfl) ?_;exact pve_put (VdV.mono ⟨kr, mr, xr, lr, ksr, nlr, nkr, Alr, Akr, clr, ckr, rfl, hnlr, hnkr, hNr, hlr, hkr⟩ (by omega)) Hb5.out (by omega) HB.out _
  go_upto_region 20 with fail
  refine wp_region_lit ?_;refine mv (.agg #[.int .i64 0, .int .i64 0, .string ⟨#[]⟩, .slice none 0 0, .slice none 0 0]) ?_;refine st [.int .i64 0, .int .i64 0, .string ⟨#[]⟩, .slice none 0 0, .slice none 0 0] HR3.out ?_;refine mv (.int .i64 13) ?_;refine xn ?_;refine rc1 (pt) (Blk.put (vs := [.int .i64 0, .int .i64 0, .string ⟨#[]⟩, .slice none 0 0, .slice none 0 0]) HR3.out rfl) ?_;exact pve_put (VdV.zero (by omega)) Hb3.out (by omega) HB.out _
 obtain rfl : qup = false := by cases qup; rfl; exact absurd (.inl rfl) hul
 obtain rfl : qlo = false := by cases qlo; rfl; exact absurd (.inr rfl) hul
 have ha2 : 2 <= ra := by
  rcases Hor.out with h | h | h | h | h | h;all_goals first | exact h | cases h
 clear hul Hor
 have hn1' : (1 : Int) < (n : Int) := by omega
 obtain ⟨ad', u0, u1, u2, u3, u4, ead, hadl', hvat, hvd⟩ := HA3.out.at_ 1 (by omega)
 cases ead
 obtain ⟨kb, mb, xb, lb, ksb, nlb, nkb, Alb, Akb, clb, ckb, rfl, rfl, rfl, rfl, rfl, hnlb, hnkb, hNb, hlb, hkb⟩ := hvd.parts
 have Hv2 : Hid (VAt ⟨ad.block, ad.off + 5, none⟩ (.int .i64 kb) (.int .i64 mb) (.string xb) (.slice Alb nlb clb) (.slice Akb nkb ckb) W2) := hid (vat_at (by simp [Addr.add]) hvat)
 have HTw := hid (fun W' (hb : Below W2.heap.size W2 W') => two_any B nm (.agg #[.int .i64 k, .int .i64 m, .string x, .slice Al nl cl, .slice Ak nk ck]) (.agg #[.int .i64 kb, .int .i64 mb, .string xb, .slice Alb nlb clb, .slice Akb nkb ckb]) W' ⟨k, m, x, l_, ks, nl, nk, Al, Ak, cl, ck, rfl, hnl, hnk, hN, Hl3.out.below hb, Hk3.out.below hb⟩ ⟨kb, mb, xb, lb, ksb, nlb, nkb, Alb, Akb, clb, ckb, rfl, hnlb, hnkb, hNb, hlb.below hb, hkb.below hb⟩ (by have := HB.out; have := Hb3.out.size; have := hb.size; omega))
 clear hvat hlb hkb
 go_upto_region 24 with fail
 refine wp_region_held_drew (S := fun wy => Blk wy (pt + 1) 25 #[.int .i64 k, .int .i64 m, .string x, .slice Al nl cl, .slice Ak nk ck] /\ VAt ⟨ad.block, ad.off + 5, none⟩ (.int .i64 kb) (.int .i64 mb) (.string xb) (.slice Alb nlb clb) (.slice Akb nkb ckb) wy) (by kernel_rfl) ⟨HX.out, Hv2.out⟩ (fun hHeld => ?_)
 have hbd : Below W2.heap.size W2 W2.drew := (Below.refl _ _).drew
 refine tk 0 79 (.string nm) rfl hHeld ?_
 refine tq 1 80 (.agg #[.int .i64 k, .int .i64 m, .string x, .slice Al nl cl, .slice Ak nk ck]) rfl (yl [.int .i64 k, .int .i64 m, .string x, .slice Al nl cl, .slice Ak nk ck] (fun w h => h.1)) hHeld ?_
 refine tk 2 81 (.slice (some ad) n c) rfl hHeld ?_
 refine tk 3 82 (.pointer (some ⟨ad.block, ad.off + 5, none⟩)) rfl hHeld ?_
 refine tq 4 83 (.agg #[.int .i64 kb, .int .i64 mb, .string xb, .slice Alb nlb clb, .slice Akb nkb ckb]) rfl (yields_run (by rfl) (fun wy h => by obtain ⟨v0, v1, v2, v3, v4⟩ := h.2; dsimp only at v0 v1 v2 v3 v4; go_simp)) hHeld ?_
 refine wpAnyH_ready (rs := [5]) (by kernel_rfl) (by simp) ?_
 refine callH 5 (some 84) rfl rfl (by rfl) (args := #[.string nm, .agg #[.int .i64 k, .int .i64 m, .string x, .slice Al nl cl, .slice Ak nk ck], .agg #[.int .i64 kb, .int .i64 mb, .string xb, .slice Alb nlb clb, .slice Akb nkb ckb]]) (by go_simp) (HTw.out _ hbd) (fun e w5 hR => ?_) AllReadyH.nil
 obtain ⟨val, er, rfl, hv5, hb5⟩ := hR
 obtain ⟨kr, mr, xr, lr, ksr, nlr, nkr, Alr, Akr, clr, ckr, rfl, hnlr, hnkr, hNr, hlr, hkr⟩ := hv5
 have hb25 := hbd.trans (hb5.mono hbd.size)
 have HR5 := hid (HR3.out.below hb25 HR3.out.lt)
 have Hb5 := hid (Hb3.out.trans (hb25.mono Hb3.out.size))
 have hH5 := And.intro (HX.out.below hb25 HX.out.lt) (Hv2.out.below hb25 hadl')
 refine ⟨_, rfl, hH5, ?_⟩
 simp only [Act.put, aQ, aZ, aC]
 refine tk 6 85 (.agg #[.int .i64 kr, .int .i64 mr, .string xr, .slice Alr nlr clr, .slice Akr nkr ckr]) rfl hH5 ?_
 refine tk 7 86 (.int .i64 er) rfl hH5 ?_
 refine wpAnyH_ready (rs := [8]) (by kernel_rfl) (by simp) ?_
 refine storeH 8 (g := pt) (l := [.int .i64 kr, .int .i64 mr, .string xr, .slice Alr nlr clr, .slice Akr nkr ckr]) rfl rfl (by rfl) _ _ rfl rfl rfl HR5.out rfl rfl uValue ?_ AllReadyH.nil
 have hH6 : (Blk (w5.setCells pt 0 [.int .i64 kr, .int .i64 mr, .string xr, .slice Alr nlr clr, .slice Akr nkr ckr]) (pt + 1) 25 #[.int .i64 k, .int .i64 m, .string x, .slice Al nl cl, .slice Ak nk ck]) /\ VAt ⟨ad.block, ad.off + 5, none⟩ (.int .i64 kb) (.int .i64 mb) (.string xb) (.slice Alb nlb clb) (.slice Akb nkb ckb) (w5.setCells pt 0 [.int .i64 kr, .int .i64 mr, .string xr, .slice Alr nlr clr, .slice Akr nkr ckr]) := ⟨hH5.1.farC (by omega) _ _, vat_low hH5.2 (below_setCells (B := pt) _ (Nat.le_refl _)) (show ad.block < pt from Hadp.out ad rfl (by omega))⟩
 refine ⟨hH6, ?_⟩
 refine tk 9 5 (.int .i64 er) rfl hH6 ?_
 refine xh ?_
 refine rc1 pt (Blk.put (vs := [.int .i64 kr, .int .i64 mr, .string xr, .slice Alr nlr clr, .slice Akr nkr ckr]) HR5.out rfl) ?_
 exact pve_put ⟨kr, mr, xr, lr, ksr, nlr, nkr, Alr, Akr, clr, ckr, rfl, hnlr, hnkr, hNr, hlr, hkr⟩ Hb5.out (by omega) HB.out _
end Go.Proofs.YtkcnmjdomipbjaaGreat
