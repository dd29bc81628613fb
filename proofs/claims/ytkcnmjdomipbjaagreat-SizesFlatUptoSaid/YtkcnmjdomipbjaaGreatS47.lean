import Derived.Test.YtkcnmjdomipbjaaGreatS34
import Derived.Test.YtkcnmjdomipbjaaGreatS41
set_option linter.unusedVariables false
set_option maxHeartbeats 100000000
set_option maxRecDepth 100000
namespace Go.Proofs.YtkcnmjdomipbjaaGreat
open Go.RowKit
theorem below_setCells {w : World} {g o B : Nat} (vs : List Value) (hg : B <= g) : Below B w (w.setCells g o vs) := by
 obtain ⟨e1, e2, e3, e4⟩ := setCells_same (g := g) vs o w
 exact ⟨e1, e2, e3, Nat.le_of_eq e4.symm, fun k hk => setCells_far vs o w (by omega)⟩
theorem pve_put {N B pr : Nat} {val : Value} {w wx : World} {vs : List Value} (hV : VdV N B val wx) (hb : Below w.heap.size w wx) (hp : w.heap.size <= pr) (hB : B <= w.heap.size) (er : Int) : PVE N B w (.returned (.tuple #[val, .int .i64 er])) (wx.setCells pr 0 vs) :=
 ⟨val, er, rfl, hV.keep (below_setCells vs (by omega)), hb.trans (below_setCells vs (by omega))⟩
theorem rows_any {w : World} {S : Nat -> Prop} {sz : Nat} {A : Option Addr} {l : List (List Dt)} (h : RowsV w S sz A 0 l) : RowsV w (fun _ => True) sz A 0 l := RowsV.to h fun _ _ _ => trivial
theorem rows_low {w w' : World} {B sz : Nat} {A : Option Addr} {l : List (List Dt)} (h : RowsV w (fun b => b < B) sz A 0 l) (hb : Below B w w') : RowsV w' (fun b => b < B) sz A 0 l := RowsV.keep hb.size (fun b hS _ => ⟨hS, hb.block b hS⟩) l sz A 0 h
theorem vwt_text {k m : Int} {x : ByteArray} {l : List Vd} {ks : List ByteArray} {N : Nat} (h : (Vd.mk k m x l ks).wt <= N) : 6 + x.size <= N /\ 6 * l.length <= N /\ ∀ v ∈ l, v.wt <= N := by
 rw [Vd.wt] at h
 have := vdsWt_len6 l
 refine ⟨by omega, by omega, fun v hv => ?_⟩
 have := vdsWt_mem hv
 omega
theorem wpl_lss {ops : Array Oper} {rest : List Oper} {op : Oper} {a : Act} {w : World} {Q : Exit -> Act -> World -> Prop} (x y : ByteArray) (hgd : op.guard = none) (p q : Operand) (ho : op.op = .binOp .lss 9 p q 9) (hx : a.eval p = .string x) (hy : a.eval q = .string y)
  (k : ∀ b : Bool, wpList Tryz.prog ops Q rest (a.put op.dst (.bool b)) w) : wpList Tryz.prog ops Q (op :: rest) a w := by
 have h : ∃ b : Bool, (execOp a.eval op).run Tryz.prog w = .ok (.value (.bool b)) w := by
  unfold execOp;rw [ho];simp only [hx, hy];go_simp
 obtain ⟨b, hb⟩ := h
 exact wpl_move hgd hb (k b)
theorem madeX (B : Nat) (s : ByteArray) (w : World) (hB : B <= w.heap.size) : Calls Tryz.prog 83 #[.string s] w (PVE 4102 B w) := made26_any 4102 B s (Nat.le_refl _) w hB
theorem two_any (B : Nat) (nm : ByteArray) (va vb : Value) (w : World) (hva : VdV 1048583 B va w) (hvb : VdV 1048583 B vb w) (hB : B <= w.heap.size) : Calls Tryz.prog 87 #[.string nm, va, vb] w (PVE 1048583 B w) := by
 obtain ⟨k, m, x, l, ks, nl, nk, Al, Ak, cl, ck, rfl, hnl, hnk, hN, hl, hk⟩ := hva
 obtain ⟨kb, mb, xb, lb, ksb, nlb, nkb, Alb, Akb, clb, ckb, rfl, hnlb, hnkb, hNb, hlb, hkb⟩ := hvb
 have HVa : Hid (∀ W, Below w.heap.size w W -> VdV 1048583 B (.agg #[.int .i64 k, .int .i64 m, .string x, .slice Al nl cl, .slice Ak nk ck]) W) := hid (fun W hb => ⟨k, m, x, l, ks, nl, nk, Al, Ak, cl, ck, rfl, hnl, hnk, hN, rows_low hl (hb.mono hB), rows_low hk (hb.mono hB)⟩)
 have HVb : Hid (∀ W, Below w.heap.size w W -> VdV 1048583 B (.agg #[.int .i64 kb, .int .i64 mb, .string xb, .slice Alb nlb clb, .slice Akb nkb ckb]) W) := hid (fun W hb => ⟨kb, mb, xb, lb, ksb, nlb, nkb, Alb, Akb, clb, ckb, rfl, hnlb, hnkb, hNb, rows_low hlb (hb.mono hB), rows_low hkb (hb.mono hB)⟩)
 have HSm := hid (fun W (hb : Below w.heap.size w W) => same04_any 1048583 k m x l ks nl nk hnl hnk hN Al Ak cl ck kb mb xb lb ksb nlb nkb hnlb hnkb hNb Alb Akb clb ckb (Nat.le_refl _) W ((rows_any hl).below hb) ((rows_any hk).below hb) ((rows_any hlb).below hb) ((rows_any hkb).below hb))
 have HTa := hid (fun W => truth04_any k m x nl nk Al Ak cl ck W)
 have HTb := hid (fun W => truth04_any kb mb xb nlb nkb Alb Akb clb ckb W)
 have HT6 := hid (fun b W => truth26_any B b W)
 have HIx := hid (fun W (hb : Below w.heap.size w W) => index04_any 1048583 B k m x l ks nl nk hnl hnk hN (by omega) Al Ak cl ck mb W (rows_low hl (hb.mono hB)) (rows_low hk (hb.mono hB)))
 have HFd := hid (fun W (hb : Below w.heap.size w W) => field04_any 1048583 B k m x l ks nl nk hnl hnk hN (by omega) Al Ak cl ck xb W (rows_low hl (hb.mono hB)) (rows_low hk (hb.mono hB)))
 obtain ⟨hx1, hx2, hx3⟩ := vwt_text hN
 obtain ⟨hy1, -, -⟩ := vwt_text hNb
 have hmul : nl * (4 * 1048583 + xb.size) <= 174763 * 5242915 := Nat.mul_le_mul (by omega) (by omega)
 have HPr := hid (fun W (hb : Below w.heap.size w W) => prints_any 1048583 l nl hnl hx3 (by omega) xb (by omega) Al cl W ((rows_any hl).below hb) (by omega))
 have HB := hid hB
 clear hl hk hlb hkb hmul hx2 hx3
 obtain ⟨W, hW⟩ := xE (((w.alloc (.cells #[.int .i64 k, .int .i64 m, .string x, .slice Al nl cl, .slice Ak nk ck] 25)).alloc (.cells #[.int .i64 kb, .int .i64 mb, .string xb, .slice Alb nlb clb, .slice Akb nkb ckb] 25)).alloc (.cells #[.int .i64 0, .int .i64 0, .string ⟨#[]⟩, .slice none 0 0, .slice none 0 0] 25))
 have hbw : Below w.heap.size w W := by rw [<- hW]; go_grown
 have HX : Hid (Blk W w.heap.size 25 #[.int .i64 k, .int .i64 m, .string x, .slice Al nl cl, .slice Ak nk ck]) := hid (by rw [<- hW]; exact ((Blk.new w _ _).alloc _).alloc _)
 have HY : Hid (Blk W (w.heap.size + 1) 25 #[.int .i64 kb, .int .i64 mb, .string xb, .slice Alb nlb clb, .slice Akb nkb ckb]) := hid (by rw [<- hW]; exact (Blk.new_at _ _ (by simp) _ _).alloc _)
 have HR : Hid (Blk W (w.heap.size + 2) 25 #[.int .i64 0, .int .i64 0, .string ⟨#[]⟩, .slice none 0 0, .slice none 0 0]) := hid (by rw [<- hW]; exact Blk.new_at _ _ (by simp) _ _)
 have Hb := hid hbw
 obtain ⟨pt, hpt⟩ := xE w.heap.size
 rw [hpt] at HX HY HR
 clear hbw
 obtain ⟨⟨c0, c1, c2, c3, c4⟩, -⟩ := blk5_cells HX.out
 go_enter Tryz.func87, Tryz.ntmps87
 have hsz := hpt
 go_upto_region 2 with (go_at_call 71; refine (HTa.out _).mono ?_; rintro e w3 ⟨bi, rfl, hb3⟩)
 clear hW c0 c1 c2 c3 c4
 have HX3 := hid (HX.out.below hb3 HX.out.lt)
 have HY3 := hid (HY.out.below hb3 HY.out.lt)
 have HR3 := hid (HR.out.below hb3 HR.out.lt)
 have Hb3 := hid (Hb.out.trans (hb3.mono Hb.out.size))
 clear hb3 HX HY HR Hb
 obtain ⟨qeq, hqeq⟩ := xE (nm.toList == [101, 113])
 obtain ⟨qlt, hqlt⟩ := xE (nm.toList == [108, 116])
 obtain ⟨qan, hqan⟩ := xE (nm.toList == [97, 110, 100])
 obtain ⟨qor, hqor⟩ := xE (nm.toList == [111, 114])
 obtain ⟨qde, hqde⟩ := xE (nm.toList == [100, 101, 102, 97, 117, 108, 116])
 obtain ⟨qix, hqix⟩ := xE (nm.toList == [105, 110, 100, 101, 120])
 cases qeq
 case true =>
  go_upto_region 4 with fail
  refine wp_region_lit ?_;refine ld [.int .i64 k, .int .i64 m, .string x, .slice Al nl cl, .slice Ak nk ck] HX3.out ?_;refine ld [.int .i64 kb, .int .i64 mb, .string xb, .slice Alb nlb clb, .slice Akb nkb ckb] HY3.out ?_;refine wpl_enter (some 16) rfl rfl (by go_simp) (HSm.out _ Hb3.out) ?_;rintro e w4 ⟨q, rfl, hb4⟩;refine ⟨_, rfl, ?_⟩;simp only [Act.put, aQ, aZ, aC];refine wpl_enter (some 17) rfl rfl (by go_simp) (HT6.out q _) ?_;rintro e w5 ⟨val, rfl, hv5, hb5⟩;obtain ⟨kr, mr, xr, lr, ksr, nlr, nkr, Alr, Akr, clr, ckr, rfl, hnlr, hnkr, hNr, hlr, hkr⟩ := hv5;have hb45 := hb4.trans (hb5.mono hb4.size);have HR5 := hid (HR3.out.below hb45 HR3.out.lt);have Hb5 := hid (Hb3.out.trans (hb45.mono Hb3.out.size));refine ⟨_, rfl, ?_⟩;simp only [Act.put, aQ, aZ, aC];refine st [.int .i64 kr, .int .i64 mr, .string xr, .slice Alr nlr clr, .slice Akr nkr ckr] HR5.out ?_;refine mv (.int .i64 0) ?_;refine xn ?_;refine rc1 (pt + 2) (Blk.put (vs := [.int .i64 kr, .int .i64 mr, .string xr, .slice Alr nlr clr, .slice Akr nkr ckr]) HR5.out rfl) ?_;exact pve_put (VdV.mono ⟨kr, mr, xr, lr, ksr, nlr, nkr, Alr, Akr, clr, ckr, rfl, hnlr, hnkr, hNr, hlr, hkr⟩ (by omega)) Hb5.out (by omega) HB.out _
 cases qlt
 case true =>
  go_upto_region 6 with fail
  go_cut [11, 27] from 9 (fun n cc (wx : World) => ∃ b : Bool, n = .string nm /\ cc = .bool b /\ wx = w3)
  case first => as_aux_lemma =>
   obtain ⟨⟨c0, c1, c2, c3, c4⟩, -⟩ := blk5_cells HX3.out;obtain ⟨⟨d0, d1, d2, d3, d4⟩, -⟩ := blk5_cells HY3.out;obtain ⟨qa, hqa⟩ := xE (k == 3);obtain ⟨qb, hqb⟩ := xE (kb == 3);go_wp2_with fail
   all_goals (go_meet; exact ⟨_, rfl, rfl, rfl⟩)
  obtain ⟨b, rfl, rfl, hwc⟩ := hcut;obtain rfl := hwc.symm;cases b
  ·skip;go_upto_region 8 with fail
   go_cut [11, 41] from 9 (fun n cc (wx : World) => ∃ b : Bool, n = .string nm /\ cc = .bool b /\ wx = w3)
   case first => as_aux_lemma =>
    obtain ⟨⟨c0, c1, c2, c3, c4⟩, -⟩ := blk5_cells HX3.out;obtain ⟨⟨d0, d1, d2, d3, d4⟩, -⟩ := blk5_cells HY3.out;obtain ⟨qa, hqa⟩ := xE (k == 4);obtain ⟨qb, hqb⟩ := xE (kb == 4);go_wp2_with fail
    all_goals (go_meet; exact ⟨_, rfl, rfl, rfl⟩)
   obtain ⟨b, rfl, rfl, hwc⟩ := hcut;obtain rfl := hwc.symm;cases b
   ·skip;go_upto_region 10 with fail
    refine wp_region_lit ?_;refine mv (.agg #[.int .i64 0, .int .i64 0, .string ⟨#[]⟩, .slice none 0 0, .slice none 0 0]) ?_;refine st [.int .i64 0, .int .i64 0, .string ⟨#[]⟩, .slice none 0 0, .slice none 0 0] HR3.out ?_;refine mv (.int .i64 13) ?_;refine xn ?_;refine rc1 (pt + 2) (Blk.put (vs := [.int .i64 0, .int .i64 0, .string ⟨#[]⟩, .slice none 0 0, .slice none 0 0]) HR3.out rfl) ?_;exact pve_put (VdV.zero (by omega)) Hb3.out (by omega) HB.out _
   obtain ⟨⟨c0, c1, c2, c3, c4⟩, -⟩ := blk5_cells HX3.out;obtain ⟨⟨d0, d1, d2, d3, d4⟩, -⟩ := blk5_cells HY3.out;go_upto_region 9 with fail
   refine wp_region_lit ?_;refine mv (.pointer (some ⟨pt, 2, none⟩)) ?_;refine mv (.string x) ?_;refine mv (.pointer (some ⟨pt + 1, 2, none⟩)) ?_;refine mv (.string xb) ?_;refine wpl_lss x xb rfl _ _ rfl rfl rfl ?_;intro bz;simp only [Act.put, aQ, aZ, aC];refine wpl_enter (some 47) rfl rfl (by go_simp) (HT6.out bz _) ?_;rintro e w5 ⟨val, rfl, hv5, hb5⟩;obtain ⟨kr, mr, xr, lr, ksr, nlr, nkr, Alr, Akr, clr, ckr, rfl, hnlr, hnkr, hNr, hlr, hkr⟩ := hv5;have HR5 := hid (HR3.out.below hb5 HR3.out.lt);have Hb5 := hid (Hb3.out.trans (hb5.mono Hb3.out.size));refine ⟨_, rfl, ?_⟩;simp only [Act.put, aQ, aZ, aC];refine st [.int .i64 kr, .int .i64 mr, .string xr, .slice Alr nlr clr, .slice Akr nkr ckr] HR5.out ?_;refine mv (.int .i64 0) ?_;refine xn ?_;refine rc1 (pt + 2) (Blk.put (vs := [.int .i64 kr, .int .i64 mr, .string xr, .slice Alr nlr clr, .slice Akr nkr ckr]) HR5.out rfl) ?_;exact pve_put (VdV.mono ⟨kr, mr, xr, lr, ksr, nlr, nkr, Alr, Akr, clr, ckr, rfl, hnlr, hnkr, hNr, hlr, hkr⟩ (by omega)) Hb5.out (by omega) HB.out _
  obtain ⟨⟨c0, c1, c2, c3, c4⟩, -⟩ := blk5_cells HX3.out;obtain ⟨⟨d0, d1, d2, d3, d4⟩, -⟩ := blk5_cells HY3.out;go_upto_region 7 with fail
  refine wp_region_lit ?_;refine mv (.pointer (some ⟨pt, 1, none⟩)) ?_;refine mv (.int .i64 m) ?_;refine mv (.pointer (some ⟨pt + 1, 1, none⟩)) ?_;refine mv (.int .i64 mb) ?_;refine mv (.bool (decide (m < mb))) ?_;refine wpl_enter (some 33) rfl rfl (by go_simp) (HT6.out (decide (m < mb)) _) ?_;rintro e w5 ⟨val, rfl, hv5, hb5⟩;obtain ⟨kr, mr, xr, lr, ksr, nlr, nkr, Alr, Akr, clr, ckr, rfl, hnlr, hnkr, hNr, hlr, hkr⟩ := hv5;have HR5 := hid (HR3.out.below hb5 HR3.out.lt);have Hb5 := hid (Hb3.out.trans (hb5.mono Hb3.out.size));refine ⟨_, rfl, ?_⟩;simp only [Act.put, aQ, aZ, aC];refine st [.int .i64 kr, .int .i64 mr, .string xr, .slice Alr nlr clr, .slice Akr nkr ckr] HR5.out ?_;refine mv (.int .i64 0) ?_;refine xn ?_;refine rc1 (pt + 2) (Blk.put (vs := [.int .i64 kr, .int .i64 mr, .string xr, .slice Alr nlr clr, .slice Akr nkr ckr]) HR5.out rfl) ?_;exact pve_put (VdV.mono ⟨kr, mr, xr, lr, ksr, nlr, nkr, Alr, Akr, clr, ckr, rfl, hnlr, hnkr, hNr, hlr, hkr⟩ (by omega)) Hb5.out (by omega) HB.out _
 cases qan
 case true =>
  cases bi
  ·skip;go_upto_region 14 with fail
   refine wp_region_lit ?_;refine ld [.int .i64 k, .int .i64 m, .string x, .slice Al nl cl, .slice Ak nk ck] HX3.out ?_;refine st [.int .i64 k, .int .i64 m, .string x, .slice Al nl cl, .slice Ak nk ck] HR3.out ?_;refine mv (.int .i64 0) ?_;refine xn ?_;refine rc1 (pt + 2) (Blk.put (vs := [.int .i64 k, .int .i64 m, .string x, .slice Al nl cl, .slice Ak nk ck]) HR3.out rfl) ?_;exact pve_put (HVa.out _ Hb3.out) Hb3.out (by omega) HB.out _
  skip;go_upto_region 13 with fail
  refine wp_region_lit ?_;refine ld [.int .i64 kb, .int .i64 mb, .string xb, .slice Alb nlb clb, .slice Akb nkb ckb] HY3.out ?_;refine st [.int .i64 kb, .int .i64 mb, .string xb, .slice Alb nlb clb, .slice Akb nkb ckb] HR3.out ?_;refine mv (.int .i64 0) ?_;refine xn ?_;refine rc1 (pt + 2) (Blk.put (vs := [.int .i64 kb, .int .i64 mb, .string xb, .slice Alb nlb clb, .slice Akb nkb ckb]) HR3.out rfl) ?_;exact pve_put (HVb.out _ Hb3.out) Hb3.out (by omega) HB.out _
 cases qor
 case true =>
  cases bi
  ·skip;go_upto_region 18 with fail
   refine wp_region_lit ?_;refine ld [.int .i64 kb, .int .i64 mb, .string xb, .slice Alb nlb clb, .slice Akb nkb ckb] HY3.out ?_;refine st [.int .i64 kb, .int .i64 mb, .string xb, .slice Alb nlb clb, .slice Akb nkb ckb] HR3.out ?_;refine mv (.int .i64 0) ?_;refine xn ?_;refine rc1 (pt + 2) (Blk.put (vs := [.int .i64 kb, .int .i64 mb, .string xb, .slice Alb nlb clb, .slice Akb nkb ckb]) HR3.out rfl) ?_;exact pve_put (HVb.out _ Hb3.out) Hb3.out (by omega) HB.out _
  skip;go_upto_region 17 with fail
  refine wp_region_lit ?_;refine ld [.int .i64 k, .int .i64 m, .string x, .slice Al nl cl, .slice Ak nk ck] HX3.out ?_;refine st [.int .i64 k, .int .i64 m, .string x, .slice Al nl cl, .slice Ak nk ck] HR3.out ?_;refine mv (.int .i64 0) ?_;refine xn ?_;refine rc1 (pt + 2) (Blk.put (vs := [.int .i64 k, .int .i64 m, .string x, .slice Al nl cl, .slice Ak nk ck]) HR3.out rfl) ?_;exact pve_put (HVa.out _ Hb3.out) Hb3.out (by omega) HB.out _
 cases qde
 case true =>
  go_upto_region 20 with fail
  refine wp_region_lit ?_;refine ld [.int .i64 kb, .int .i64 mb, .string xb, .slice Alb nlb clb, .slice Akb nkb ckb] HY3.out ?_;refine wpl_enter (some 62) rfl rfl (by go_simp) (HTb.out _) ?_;rintro e w5 ⟨bj, rfl, hb5⟩;have HX5 := hid (HX3.out.below hb5 HX3.out.lt);have HY5 := hid (HY3.out.below hb5 HY3.out.lt);have HR5 := hid (HR3.out.below hb5 HR3.out.lt);have Hb5 := hid (Hb3.out.trans (hb5.mono Hb3.out.size));refine ⟨_, rfl, ?_⟩;simp only [Act.put, aQ, aZ, aC];refine wpList_nil ?_;(try simp only [Exit.then]);cases bj
  ·skip;go_upto_region 22 with fail
   refine wp_region_lit ?_;refine ld [.int .i64 k, .int .i64 m, .string x, .slice Al nl cl, .slice Ak nk ck] HX5.out ?_;refine st [.int .i64 k, .int .i64 m, .string x, .slice Al nl cl, .slice Ak nk ck] HR5.out ?_;refine mv (.int .i64 0) ?_;refine xn ?_;refine rc1 (pt + 2) (Blk.put (vs := [.int .i64 k, .int .i64 m, .string x, .slice Al nl cl, .slice Ak nk ck]) HR5.out rfl) ?_;exact pve_put (HVa.out _ Hb5.out) Hb5.out (by omega) HB.out _
  skip;go_upto_region 21 with fail
  refine wp_region_lit ?_;refine ld [.int .i64 kb, .int .i64 mb, .string xb, .slice Alb nlb clb, .slice Akb nkb ckb] HY5.out ?_;refine st [.int .i64 kb, .int .i64 mb, .string xb, .slice Alb nlb clb, .slice Akb nkb ckb] HR5.out ?_;refine mv (.int .i64 0) ?_;refine xn ?_;refine rc1 (pt + 2) (Blk.put (vs := [.int .i64 kb, .int .i64 mb, .string xb, .slice Alb nlb clb, .slice Akb nkb ckb]) HR5.out rfl) ?_;exact pve_put (HVb.out _ Hb5.out) Hb5.out (by omega) HB.out _
 cases qix
 case true =>
  go_upto_region 24 with fail
  go_cut [11, 74] from 9 (fun n cc (wx : World) => ∃ b : Bool, n = .string nm /\ cc = .bool b /\ wx = w3)
  case first => as_aux_lemma =>
   obtain ⟨⟨c0, c1, c2, c3, c4⟩, -⟩ := blk5_cells HX3.out;obtain ⟨⟨d0, d1, d2, d3, d4⟩, -⟩ := blk5_cells HY3.out;obtain ⟨qa, hqa⟩ := xE (k == 5);obtain ⟨qb, hqb⟩ := xE (kb == 3);go_wp2_with fail
   all_goals (go_meet; exact ⟨_, rfl, rfl, rfl⟩)
  obtain ⟨b, rfl, rfl, hwc⟩ := hcut;obtain rfl := hwc.symm;cases b
  ·skip;go_upto_region 26 with fail
   go_cut [11, 88] from 9 (fun n cc (wx : World) => ∃ b : Bool, n = .string nm /\ cc = .bool b /\ wx = w3)
   case first => as_aux_lemma =>
    obtain ⟨⟨c0, c1, c2, c3, c4⟩, -⟩ := blk5_cells HX3.out;obtain ⟨⟨d0, d1, d2, d3, d4⟩, -⟩ := blk5_cells HY3.out;obtain ⟨qa, hqa⟩ := xE (k == 6);obtain ⟨qb, hqb⟩ := xE (kb == 4);go_wp2_with fail
    all_goals (go_meet; exact ⟨_, rfl, rfl, rfl⟩)
   obtain ⟨b, rfl, rfl, hwc⟩ := hcut;obtain rfl := hwc.symm;cases b
   ·skip;go_upto_region 28 with fail
    refine wp_region_lit ?_;refine mv (.agg #[.int .i64 0, .int .i64 0, .string ⟨#[]⟩, .slice none 0 0, .slice none 0 0]) ?_;refine st [.int .i64 0, .int .i64 0, .string ⟨#[]⟩, .slice none 0 0, .slice none 0 0] HR3.out ?_;refine mv (.int .i64 13) ?_;refine xn ?_;refine rc1 (pt + 2) (Blk.put (vs := [.int .i64 0, .int .i64 0, .string ⟨#[]⟩, .slice none 0 0, .slice none 0 0]) HR3.out rfl) ?_;exact pve_put (VdV.zero (by omega)) Hb3.out (by omega) HB.out _
   obtain ⟨⟨d0, d1, d2, d3, d4⟩, -⟩ := blk5_cells HY3.out;go_upto_region 27 with fail
   refine wp_region_lit ?_;refine ld [.int .i64 k, .int .i64 m, .string x, .slice Al nl cl, .slice Ak nk ck] HX3.out ?_;refine mv (.pointer (some ⟨pt + 1, 2, none⟩)) ?_;refine mv (.string xb) ?_;refine wpl_enter (some 92) rfl rfl (by go_simp) (HFd.out _ Hb3.out) ?_;rintro e w5 ⟨val, er, rfl, hv5, hb5⟩;obtain ⟨kr, mr, xr, lr, ksr, nlr, nkr, Alr, Akr, clr, ckr, rfl, hnlr, hnkr, hNr, hlr, hkr⟩ := hv5;have HR5 := hid (HR3.out.below hb5 HR3.out.lt);have Hb5 := hid (Hb3.out.trans (hb5.mono Hb3.out.size));refine ⟨_, rfl, ?_⟩;simp only [Act.put, aQ, aZ, aC];refine mv (.agg #[.int .i64 kr, .int .i64 mr, .string xr, .slice Alr nlr clr, .slice Akr nkr ckr]) ?_;refine mv (.int .i64 er) ?_;refine st [.int .i64 kr, .int .i64 mr, .string xr, .slice Alr nlr clr, .slice Akr nkr ckr] HR5.out ?_;refine mv (.int .i64 er) ?_;refine xn ?_;refine rc1 (pt + 2) (Blk.put (vs := [.int .i64 kr, .int .i64 mr, .string xr, .slice Alr nlr clr, .slice Akr nkr ckr]) HR5.out rfl) ?_;exact pve_put ⟨kr, mr, xr, lr, ksr, nlr, nkr, Alr, Akr, clr, ckr, rfl, hnlr, hnkr, hNr, hlr, hkr⟩ Hb5.out (by omega) HB.out _
  obtain ⟨⟨d0, d1, d2, d3, d4⟩, -⟩ := blk5_cells HY3.out;go_upto_region 25 with fail
  refine wp_region_lit ?_;refine ld [.int .i64 k, .int .i64 m, .string x, .slice Al nl cl, .slice Ak nk ck] HX3.out ?_;refine mv (.pointer (some ⟨pt + 1, 1, none⟩)) ?_;refine mv (.int .i64 mb) ?_;refine wpl_enter (some 78) rfl rfl (by go_simp) (HIx.out _ Hb3.out) ?_;rintro e w5 ⟨val, er, rfl, hv5, hb5⟩;obtain ⟨kr, mr, xr, lr, ksr, nlr, nkr, Alr, Akr, clr, ckr, rfl, hnlr, hnkr, hNr, hlr, hkr⟩ := hv5;have HR5 := hid (HR3.out.below hb5 HR3.out.lt);have Hb5 := hid (Hb3.out.trans (hb5.mono Hb3.out.size));refine ⟨_, rfl, ?_⟩;simp only [Act.put, aQ, aZ, aC];refine mv (.agg #[.int .i64 kr, .int .i64 mr, .string xr, .slice Alr nlr clr, .slice Akr nkr ckr]) ?_;refine mv (.int .i64 er) ?_;refine st [.int .i64 kr, .int .i64 mr, .string xr, .slice Alr nlr clr, .slice Akr nkr ckr] HR5.out ?_;refine mv (.int .i64 er) ?_;refine xn ?_;refine rc1 (pt + 2) (Blk.put (vs := [.int .i64 kr, .int .i64 mr, .string xr, .slice Alr nlr clr, .slice Akr nkr ckr]) HR5.out rfl) ?_;exact pve_put ⟨kr, mr, xr, lr, ksr, nlr, nkr, Alr, Akr, clr, ckr, rfl, hnlr, hnkr, hNr, hlr, hkr⟩ Hb5.out (by omega) HB.out _
 go_upto_region 29 with fail
 go_cut [11, 103] from 9 (fun n cc (wx : World) => ∃ b : Bool, n = .string nm /\ cc = .bool b /\ wx = w3)
 case first => as_aux_lemma =>
  obtain ⟨⟨c0, c1, c2, c3, c4⟩, -⟩ := blk5_cells HX3.out;obtain ⟨⟨d0, d1, d2, d3, d4⟩, -⟩ := blk5_cells HY3.out;obtain ⟨qa, hqa⟩ := xE (k != 5);obtain ⟨qb, hqb⟩ := xE (kb != 4);go_wp2_with fail
  all_goals (go_meet; exact ⟨_, rfl, rfl, rfl⟩)
 obtain ⟨b, rfl, rfl, hwc⟩ := hcut
 obtain rfl := hwc.symm
 cases b
 ·obtain ⟨⟨c0, c1, c2, c3, c4⟩, -⟩ := blk5_cells HX3.out;obtain ⟨⟨d0, d1, d2, d3, d4⟩, -⟩ := blk5_cells HY3.out;go_upto_region 31 with fail
  refine wp_region_lit ?_;refine mv (.pointer (some ⟨pt, 3, none⟩)) ?_;refine mv (.slice Al nl cl) ?_;refine mv (.pointer (some ⟨pt + 1, 2, none⟩)) ?_;refine mv (.string xb) ?_;refine wpl_enter (some 109) rfl rfl (by go_simp) (HPr.out _ Hb3.out) ?_;rintro e w4 ⟨ts, rfl, hts, hb4⟩;refine ⟨_, rfl, ?_⟩;simp only [Act.put, aQ, aZ, aC];have Hb4 := hid (Hb3.out.trans (hb4.mono Hb3.out.size));refine wpl_enter (some 110) rfl rfl (by go_simp) (madeX B ts w4 (Nat.le_trans HB.out Hb4.out.size)) ?_;rintro e w5 ⟨val, er, rfl, hv5, hb5⟩;obtain ⟨kr, mr, xr, lr, ksr, nlr, nkr, Alr, Akr, clr, ckr, rfl, hnlr, hnkr, hNr, hlr, hkr⟩ := hv5;have HR5 := hid (HR3.out.below (hb4.trans (hb5.mono hb4.size)) HR3.out.lt);have Hb5 := hid (Hb4.out.trans (hb5.mono Hb4.out.size));refine ⟨_, rfl, ?_⟩;simp only [Act.put, aQ, aZ, aC];refine mv (.agg #[.int .i64 kr, .int .i64 mr, .string xr, .slice Alr nlr clr, .slice Akr nkr ckr]) ?_;refine mv (.int .i64 er) ?_;refine st [.int .i64 kr, .int .i64 mr, .string xr, .slice Alr nlr clr, .slice Akr nkr ckr] HR5.out ?_;refine mv (.int .i64 er) ?_;refine xn ?_;refine rc1 (pt + 2) (Blk.put (vs := [.int .i64 kr, .int .i64 mr, .string xr, .slice Alr nlr clr, .slice Akr nkr ckr]) HR5.out rfl) ?_;exact pve_put (VdV.mono ⟨kr, mr, xr, lr, ksr, nlr, nkr, Alr, Akr, clr, ckr, rfl, hnlr, hnkr, hNr, hlr, hkr⟩ (by omega)) Hb5.out (by omega) HB.out _
 skip
 go_upto_region 30 with fail
 refine wp_region_lit ?_
 refine mv (.agg #[.int .i64 0, .int .i64 0, .string ⟨#[]⟩, .slice none 0 0, .slice none 0 0]) ?_
 refine st [.int .i64 0, .int .i64 0, .string ⟨#[]⟩, .slice none 0 0, .slice none 0 0] HR3.out ?_
 refine mv (.int .i64 13) ?_
 refine xn ?_
 refine rc1 (pt + 2) (Blk.put (vs := [.int .i64 0, .int .i64 0, .string ⟨#[]⟩, .slice none 0 0, .slice none 0 0]) HR3.out rfl) ?_
 exact pve_put (VdV.zero (by omega)) Hb3.out (by omega) HB.out _
end Go.Proofs.YtkcnmjdomipbjaaGreat
