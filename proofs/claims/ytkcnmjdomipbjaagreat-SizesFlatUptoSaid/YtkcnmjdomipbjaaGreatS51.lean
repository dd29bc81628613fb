import Derived.Test.YtkcnmjdomipbjaaGreatS44
import Derived.Test.YtkcnmjdomipbjaaGreatS50
set_option linter.unusedVariables false
set_option maxHeartbeats 100000000
set_option maxRecDepth 100000
namespace Go.Proofs.YtkcnmjdomipbjaaGreat
open Go.RowKit
structure Ho where
 a : Nat
 b : Nat
 e : Int
 s : ByteArray
def Ho.row (h : Ho) : List Value := [.int .i64 (h.a : Int), .int .i64 (h.b : Int), .int .i64 h.e, .string h.s]
def hoSum : List Ho -> Nat
 | [] => 0
 | h :: r => (h.b - h.a) + hoSum r
theorem hoSum_snoc : ∀ (l : List Ho) (h : Ho), hoSum (l ++ [h]) = hoSum l + (h.b - h.a)
 | [], h => by simp [hoSum]
 | q :: l, h => by rw [List.cons_append, hoSum, hoSum_snoc l h, hoSum]; omega
structure TS (base pl : Nat) (us : Value) (t : Te) (l : List UInt8) (hs : List Ho) (nt : Nat) (wx : World) : Prop where
 te : TeAt pl t wx
 us_ : t.us = us
 fuel : t.fuel = 65536
 most : t.most = 65536
 u0 : 0 <= t.used
 u1 : t.used <= 65536
 out : OwnB wx base t.out l
 len : l.length <= 65536
 holes : wx.ownsRow base 46 4 t.holes hs.length (hs.map Ho.row).flatten
 sum : hoSum hs + nt = l.length
 trace : t.trace = .slice none 0 0
 fine : ∀ h ∈ hs, h.a <= h.b /\ h.b <= 65536
def TFl (pl : Nat) (wx : World) : Prop := ∃ t : Te, TeAt pl t wx /\ t.er ≠ 0
section
variable {base pl nt : Nat} {us : Value} {t : Te} {l : List UInt8} {hs : List Ho} {wx w' : World}
theorem TS.same (h : TS base pl us t l hs nt wx) (hk : ∀ (g : Nat) (cs : Array Value) (ty : TypeId), wx.heap[g]? = some (Obj.cells cs ty (0, 0)) -> XT ty = true -> w'.heap[g]? = wx.heap[g]?) : TS base pl us t l hs nt w' :=
 ⟨(hk pl _ _ h.te rfl).trans h.te, h.us_, h.fuel, h.most, h.u0, h.u1, ownB_same h.out fun g cur hg hc => hk g _ _ hc rfl, h.len, own_stay h.holes fun g cur hg hc => hk g _ _ hc rfl, h.sum, h.trace, h.fine⟩
theorem TS.below (h : TS base pl us t l hs nt wx) (hb : Below wx.heap.size wx w') : TS base pl us t l hs nt w' := h.same fun g cs ty hc _ => hb.block g (heap_lt hc)
theorem TS.farC (h : TS base pl us t l hs nt wx) {g : Nat} {ty : TypeId} {cs : Array Value} (hB : Blk wx g ty cs) (hx : XT ty = false) (o : Nat) (vs : List Value) : TS base pl us t l hs nt (wx.setCells g o vs) := h.same fun b cs' ty' hc ht => setCells_far vs o wx fun e => by
 subst e
 have hB' : wx.heap[b]? = some (.cells cs ty (0, 0)) := hB
 rw [hB'] at hc
 injection hc with hc
 injection hc with _ e2
 rw [<- e2, hx] at ht; cases ht
theorem TS.lt (h : TS base pl us t l hs nt wx) : pl < wx.heap.size := Blk.lt h.te
end
def PNode (base pl : Nat) (us : Value) (hs : List Ho) (nt nt' nh : Nat) (w : World) (e : Ending) (w' : World) : Prop := ∃ b : Bool, e = .returned (.bool b) /\ (b = true -> ∃ t' l' hs', TS base pl us t' l' hs' nt' w' /\ hs'.length = nh) /\ (b = false -> TFl pl w') /\ TF XT base w w'
theorem node28_text (base pl : Nat) (hbl : base <= pl) (us : Value) (t : Te) (l : List UInt8) (hs : List Ho) (nt : Nat) (ve : Value) (B : Nat) (k : Int) (hk : k = 1) (x nm : ByteArray) (Ap Ab Ae : Option Addr) (np cp cb ce : Nat) (na ne nu : Int) (w : World) (hx : x.size <= 16384) (hT : TS base pl us t l hs nt w) (hE : EnvV B ve w) : Calls Tryz.prog 55 #[.pointer (some ⟨pl, 0, none⟩), .agg #[.int .i64 k, .string x, .string nm, .slice Ap np cp, .slice Ab 0 cb, .slice Ae 0 ce, .int .i64 na, .int .i64 ne, .int .i64 nu], ve] w (PNode base pl us hs nt (nt + x.size) hs.length w) := by
 subst hk
 obtain ⟨r0, r1, r2, r3, r4, d0, d1, d2, d3, d4, Av, nv, cv, rfl, -, -, -, -⟩ := hE
 obtain ⟨W, hW⟩ := xE ((w.alloc (.cells #[.int .i64 1, .string x, .string nm, .slice Ap np cp, .slice Ab 0 cb, .slice Ae 0 ce, .int .i64 na, .int .i64 ne, .int .i64 nu] 52)).alloc (.cells #[r0, r1, r2, r3, r4, d0, d1, d2, d3, d4, .slice Av nv cv] 99))
 have hbw : Below w.heap.size w W := by rw [<- hW]; go_grown
 have HN : Hid (Blk W w.heap.size 52 #[.int .i64 1, .string x, .string nm, .slice Ap np cp, .slice Ab 0 cb, .slice Ae 0 ce, .int .i64 na, .int .i64 ne, .int .i64 nu]) := hid (by rw [<- hW]; exact (Blk.new w _ _).alloc _)
 have HT1 := hid (hT.below hbw)
 have HTe := hid (tell28_any base pl hbl t l x na W HT1.out.te HT1.out.out (by rw [HT1.out.most]; exact Int.le_refl _) (by omega) (by have := HT1.out.len; omega))
 have Hb := hid hbw
 obtain ⟨pb, hpb⟩ := xE w.heap.size
 rw [hpb] at HN
 clear hT hbw
 go_enter Tryz.func55, Tryz.ntmps55
 have n0 := (HN.out.cell 0).trans rfl
 have n1 := (HN.out.cell 1).trans rfl
 have n6 := (HN.out.cell 6).trans rfl
 go_upto_region 2 with fail
 refine wp_region_lit ?_
 refine mv (.pointer (some ⟨pl, 0, none⟩)) ?_
 refine mv (.pointer (some ⟨pb, 1, none⟩)) ?_
 refine mv (.string x) ?_
 refine mv (.pointer (some ⟨pb, 6, none⟩)) ?_
 refine mv (.int .i64 na) ?_
 refine wpl_enter (some 23) rfl rfl (by go_simp) HTe.out ?_
 rintro e w3 ⟨b, rfl, hb3, ht3⟩
 refine ⟨_, rfl, ?_⟩
 simp only [Act.put, aQ, aZ, aC]
 refine mv (.bool b) ?_
 refine xn ?_
 refine bodyPost_ret (results_tmp rfl _ _ _) rfl ?_
 have hT3 := ((TF.of_below Hb.out : TF XTl base w W).trans ht3).wide XTl_XT
 refine ⟨b, rfl, fun h => ?_, fun h => ?_, hT3⟩
 ·rw [if_pos h] at hb3;obtain ⟨hle, v', hte, ho⟩ := hb3;rw [HT1.out.most] at hle;refine ⟨_, l ++ x.data.toList, hs, ⟨hte, HT1.out.us_, HT1.out.fuel, HT1.out.most, HT1.out.u0, HT1.out.u1, ho, ?_, own_tfX HT1.out.holes ht3 rfl, ?_, HT1.out.trace, HT1.out.fine⟩, rfl⟩
  ·rw [List.length_append, len_data]; omega
  rw [List.length_append, len_data]; have := HT1.out.sum; omega
 subst h
 obtain ⟨er, at_, hte, hne⟩ := hb3
 exact ⟨_, hte, hne⟩
theorem node28_act (base pl : Nat) (hbl : base <= pl) (us : Value) (t : Te) (l : List UInt8) (hs : List Ho) (nt : Nat) (ve : Value) (B : Nat) (hB : B <= base) (x nm : ByteArray) (cs : List Ca) (Ap Ab Ae : Option Addr) (np cp cb ce : Nat) (hnp : cs.length = np) (hnz : np <= 1048576) (hc : ∀ c ∈ cs, CaOk c) (hh : hs.length <= 65536) (na ne nu : Int) (w0 : World) (hT : TS base pl us t l hs nt w0) (hE : EnvV B ve w0) (hr : RowsV w0 (fun _ => True) 2 Ap 0 (cs.map Ca.row)) : Calls Tryz.prog 55 #[.pointer (some ⟨pl, 0, none⟩), .agg #[.int .i64 2, .string x, .string nm, .slice Ap np cp, .slice Ab 0 cb, .slice Ae 0 ce, .int .i64 na, .int .i64 ne, .int .i64 nu], ve] w0 (PNode base pl us hs nt nt (hs.length + 1) w0) := by
 have HE := hid (fun W (hb : Below w0.heap.size w0 W) => hE.below hb)
 obtain ⟨r0, r1, r2, r3, r4, d0, d1, d2, d3, d4, Av, nv, cv, rfl, -, -, -, -⟩ := hE
 have hlt0 := hT.lt
 obtain ⟨W, hW⟩ := xE ((w0.alloc (.cells #[.int .i64 2, .string x, .string nm, .slice Ap np cp, .slice Ab 0 cb, .slice Ae 0 ce, .int .i64 na, .int .i64 ne, .int .i64 nu] 52)).alloc (.cells #[r0, r1, r2, r3, r4, d0, d1, d2, d3, d4, .slice Av nv cv] 99))
 have hbw : Below w0.heap.size w0 W := by rw [<- hW]; go_grown
 have HN : Hid (Blk W w0.heap.size 52 #[.int .i64 2, .string x, .string nm, .slice Ap np cp, .slice Ab 0 cb, .slice Ae 0 ce, .int .i64 na, .int .i64 ne, .int .i64 nu]) := hid (by rw [<- hW]; exact (Blk.new w0 _ _).alloc _)
 have HX : Hid (Blk W (w0.heap.size + 1) 99 #[r0, r1, r2, r3, r4, d0, d1, d2, d3, d4, .slice Av nv cv]) := hid (by rw [<- hW]; exact Blk.new_at _ _ (by simp) _ _)
 have hWz : W.heap.size = w0.heap.size + 2 := by rw [<- hW]; simp
 have HT1 := hid (hT.below hbw)
 have Hb := hid hbw
 have HR := hid hr
 have hBw : B <= w0.heap.size := by omega
 obtain ⟨pb, hpb⟩ := xE w0.heap.size
 rw [hpb] at HN HX hWz
 clear hT hbw hr
 go_enter Tryz.func55, Tryz.ntmps55
 have n0 := (HN.out.cell 0).trans rfl
 go_upto_region 3 with fail
 clear n0 hW
 refine wp_region_lit ?_
 refine wpl_val (some 7) (v := .pointer (some ⟨W.heap.size, 0, none⟩)) (w' := W.alloc (.cells #[.int .i64 0, .int .i64 0, .string ⟨#[]⟩, .slice none 0 0, .slice none 0 0] 25)) rfl rfl (by go_simp) ?_
 simp only [Act.put, aQ, aZ, aC]
 refine wpList_nil ?_
 (try simp only [Exit.then])
 have hal : Below W.heap.size W (W.alloc (.cells #[.int .i64 0, .int .i64 0, .string ⟨#[]⟩, .slice none 0 0, .slice none 0 0] 25)) := alloc_below _ _
 have HV2 : Hid (Blk (W.alloc (.cells #[.int .i64 0, .int .i64 0, .string ⟨#[]⟩, .slice none 0 0, .slice none 0 0] 25)) W.heap.size 25 #[.int .i64 0, .int .i64 0, .string ⟨#[]⟩, .slice none 0 0, .slice none 0 0]) := hid (Blk.new _ _ _)
 have HN2 := hid (HN.out.below hal HN.out.lt)
 have HX2 := hid (HX.out.below hal HX.out.lt)
 have HT2 := hid (HT1.out.below hal)
 have Hb2 := hid (Hb.out.trans (hal.mono Hb.out.size))
 obtain ⟨W2, hW2⟩ := xE (W.alloc (.cells #[.int .i64 0, .int .i64 0, .string ⟨#[]⟩, .slice none 0 0, .slice none 0 0] 25))
 rw [hW2] at HV2 HN2 HX2 HT2 Hb2 ⊢
 rw [hWz] at HV2 ⊢
 clear hW2 hal HN HX HT1 Hb
 have HPi := hid (pipe27_any B (.agg #[r0, r1, r2, r3, r4, d0, d1, d2, d3, d4, .slice Av nv cv]) cs np hnp hnz Ap cp W2 (HE.out W2 Hb2.out) (Nat.le_trans hBw Hb2.out.size) hc (HR.out.below Hb2.out))
 have n0 := (HN2.out.cell 0).trans rfl
 go_upto_region 5 with fail
 clear n0
 have n3 := (HN2.out.cell 3).trans rfl
 refine wp_region_lit ?_
 refine ld [r0, r1, r2, r3, r4, d0, d1, d2, d3, d4, .slice Av nv cv] HX2.out ?_
 refine mv (.pointer (some ⟨pb, 3, none⟩)) ?_
 refine mv (.slice Ap np cp) ?_
 clear n3
 refine wpl_enter (some 37) rfl rfl (by go_simp) HPi.out ?_
 rintro e w3 ⟨val, er, rfl, hv3, hb3⟩
 obtain ⟨kr, mr, xr, lr, ksr, nlr, nkr, Alr, Akr, clr, ckr, rfl, hnlr, hnkr, hNr, hlr, hkr⟩ := hv3
 refine ⟨_, rfl, ?_⟩
 simp only [Act.put, aQ, aZ, aC]
 refine mv (.tuple #[.agg #[.int .i64 kr, .int .i64 mr, .string xr, .slice Alr nlr clr, .slice Akr nkr ckr], .int .i64 er]) ?_
 refine mv (.agg #[.int .i64 kr, .int .i64 mr, .string xr, .slice Alr nlr clr, .slice Akr nkr ckr]) ?_
 refine mv (.int .i64 er) ?_
 refine wpl_val (some 8) (v := .pointer (some ⟨w3.heap.size, 0, none⟩)) (w' := w3.alloc (.cells #[.int .i64 0, .int .i64 0, .string ⟨#[]⟩, .slice none 0 0, .slice none 0 0] 25)) rfl rfl (by go_simp) ?_
 simp only [Act.put, aQ, aZ, aC]
 have hB8 : Blk (w3.alloc (.cells #[.int .i64 0, .int .i64 0, .string ⟨#[]⟩, .slice none 0 0, .slice none 0 0] 25)) w3.heap.size 25 #[.int .i64 0, .int .i64 0, .string ⟨#[]⟩, .slice none 0 0, .slice none 0 0] := Blk.new _ _ _
 refine st [.int .i64 kr, .int .i64 mr, .string xr, .slice Alr nlr clr, .slice Akr nkr ckr] hB8 ?_
 refine mv (.int .i64 er) ?_
 refine wpList_nil ?_
 (try simp only [Exit.then])
 have hal : Below w3.heap.size w3 (w3.alloc (.cells #[.int .i64 0, .int .i64 0, .string ⟨#[]⟩, .slice none 0 0, .slice none 0 0] 25)) := alloc_below _ _
 have hb4 : Below w3.heap.size w3 ((w3.alloc (.cells #[.int .i64 0, .int .i64 0, .string ⟨#[]⟩, .slice none 0 0, .slice none 0 0] 25)).setCells w3.heap.size 0 [.int .i64 kr, .int .i64 mr, .string xr, .slice Alr nlr clr, .slice Akr nkr ckr]) := hal.trans (below_setCells _ (Nat.le_refl _))
 have HV8 := hid (hB8.put (vs := [.int .i64 kr, .int .i64 mr, .string xr, .slice Alr nlr clr, .slice Akr nkr ckr]) rfl)
 have hb24 := hb3.trans (hb4.mono hb3.size)
 have HV4 := hid (HV2.out.below hb24 HV2.out.lt)
 have HN4 := hid (HN2.out.below hb24 HN2.out.lt)
 have HT4 := hid (HT2.out.below hb24)
 have Hb4 := hid (Hb2.out.trans (hb24.mono Hb2.out.size))
 have hgx : pb + 2 < w3.heap.size := by have := HV2.out.lt; have := hb3.size; omega
 have Hval : Hid (VdV 1048583 B (.agg #[.int .i64 kr, .int .i64 mr, .string xr, .slice Alr nlr clr, .slice Akr nkr ckr]) ((w3.alloc (.cells #[.int .i64 0, .int .i64 0, .string ⟨#[]⟩, .slice none 0 0, .slice none 0 0] 25)).setCells w3.heap.size 0 [.int .i64 kr, .int .i64 mr, .string xr, .slice Alr nlr clr, .slice Akr nkr ckr])) := hid (VdV.below ⟨kr, mr, xr, lr, ksr, nlr, nkr, Alr, Akr, clr, ckr, rfl, hnlr, hnkr, hNr, hlr, hkr⟩ hb4)
 obtain ⟨W4, hW4⟩ := xE ((w3.alloc (.cells #[.int .i64 0, .int .i64 0, .string ⟨#[]⟩, .slice none 0 0, .slice none 0 0] 25)).setCells w3.heap.size 0 [.int .i64 kr, .int .i64 mr, .string xr, .slice Alr nlr clr, .slice Akr nkr ckr])
 rw [hW4] at HV8 HV4 HN4 HT4 Hb4 Hval ⊢
 obtain ⟨gx, hgxx⟩ := xE w3.heap.size
 rw [hgxx] at HV8 hgx ⊢
 clear hW4 hgxx hal hb4 hb24 hB8 hb3 HV2 HN2 HX2 HT2 Hb2 HPi hlr hkr
 have HTF4 : Hid (TF XT base w0 W4) := hid (TF.of_below Hb4.out)
 obtain ⟨qe, hqe⟩ := xE (er != 0)
 cases qe
 case true =>
  have n6 := (HN4.out.cell 6).trans rfl;have HFa := hid (fail28_any base pl hbl t na er W4 HT4.out.te);go_upto_region 7 with fail
  refine wp_region_lit ?_;refine mv (.pointer (some ⟨pl, 0, none⟩)) ?_;refine mv (.pointer (some ⟨pb, 6, none⟩)) ?_;refine mv (.int .i64 na) ?_;refine mv (.int .i64 er) ?_;refine wpl_enter (some 46) rfl rfl (by go_simp) HFa.out ?_;rintro e w9 ⟨rfl, ⟨er', at', hte, hne⟩, htf⟩;refine ⟨_, rfl, ?_⟩;simp only [Act.put, aQ, aZ, aC];refine mv (.bool false) ?_;refine xn ?_;refine bodyPost_ret (results_tmp rfl _ _ _) rfl ?_;exact ⟨false, rfl, fun h => absurd h (by decide), fun _ => ⟨_, hte, hne (bne_iff_ne.1 hqe)⟩, HTF4.out.trans (htf.wide XTe_XT)⟩
 go_upto_region 8 with fail
 refine wp_region_lit ?_
 refine ld [.int .i64 kr, .int .i64 mr, .string xr, .slice Alr nlr clr, .slice Akr nkr ckr] HV8.out ?_
 refine st [.int .i64 kr, .int .i64 mr, .string xr, .slice Alr nlr clr, .slice Akr nkr ckr] HV4.out ?_
 refine wpList_nil ?_
 (try simp only [Exit.then])
 have HV5 := hid (HV4.out.put (vs := [.int .i64 kr, .int .i64 mr, .string xr, .slice Alr nlr clr, .slice Akr nkr ckr]) rfl)
 have HN5 := hid (HN4.out.farC (show pb ≠ pb + 2 by omega) 0 [.int .i64 kr, .int .i64 mr, .string xr, .slice Alr nlr clr, .slice Akr nkr ckr])
 have HT5 := hid (HT4.out.farC HV4.out rfl 0 [.int .i64 kr, .int .i64 mr, .string xr, .slice Alr nlr clr, .slice Akr nkr ckr])
 have Hb5 : Hid (Below w0.heap.size w0 (W4.setCells (pb + 2) 0 [.int .i64 kr, .int .i64 mr, .string xr, .slice Alr nlr clr, .slice Akr nkr ckr])) := hid (Hb4.out.trans (below_setCells _ (by omega)))
 have Hval5 : Hid (VdV 1048583 B (.agg #[.int .i64 kr, .int .i64 mr, .string xr, .slice Alr nlr clr, .slice Akr nkr ckr]) (W4.setCells (pb + 2) 0 [.int .i64 kr, .int .i64 mr, .string xr, .slice Alr nlr clr, .slice Akr nkr ckr])) := hid (Hval.out.keep (below_setCells _ (by omega)))
 obtain ⟨W5, hW5⟩ := xE (W4.setCells (pb + 2) 0 [.int .i64 kr, .int .i64 mr, .string xr, .slice Alr nlr clr, .slice Akr nkr ckr])
 rw [hW5] at HV5 HN5 HT5 Hb5 Hval5 ⊢
 clear hW5 HV4 HV8 HN4 HT4 Hb4 HTF4 Hval hqe
 have HTF5 : Hid (TF XT base w0 W5) := hid (TF.of_below Hb5.out)
 obtain ⟨kr', mr', xr', lr', ksr', nlr', nkr', Alr', Akr', clr', ckr', e0, e1, e2, e3, e4, hnl', hnk', hN', hl', hk'⟩ := Hval5.out.parts
 cases e0; cases e1; cases e2; cases e3; cases e4
 have HAp := hid (apply_any ne kr mr xr lr' ksr' nlr nkr hnl' hnk' hN' Alr Akr clr ckr W5 (rows_any hl') (rows_any hk'))
 have Hlr := hid hl'
 have Hkr := hid hk'
 clear hl' hk'
 have n0 := (HN5.out.cell 0).trans rfl
 have n7 := (HN5.out.cell 7).trans rfl
 go_upto_region 11 with fail
 refine wp_region_lit ?_
 refine mv (.pointer (some ⟨pb, 7, none⟩)) ?_
 refine mv (.int .i64 ne) ?_
 refine ld [.int .i64 kr, .int .i64 mr, .string xr, .slice Alr nlr clr, .slice Akr nkr ckr] HV5.out ?_
 clear n0 n7
 refine wpl_enter (some 56) rfl rfl (by go_simp) HAp.out ?_
 rintro e w6 ⟨s6, er2, rfl, hs6, hb6⟩
 refine ⟨_, rfl, ?_⟩
 simp only [Act.put, aQ, aZ, aC]
 refine mv (.tuple #[.string s6, .int .i64 er2]) ?_
 refine mv (.string s6) ?_
 refine mv (.int .i64 er2) ?_
 refine mv (.string s6) ?_
 refine mv (.int .i64 er2) ?_
 refine wpList_nil ?_
 (try simp only [Exit.then])
 have HV6 := hid (HV5.out.below hb6 HV5.out.lt)
 have HN6 := hid (HN5.out.below hb6 HN5.out.lt)
 have HT6 := hid (HT5.out.below hb6)
 have Hb6 : Hid (Below w0.heap.size w0 w6) := hid (Hb5.out.trans (hb6.mono Hb5.out.size))
 have HTF6 := hid (HTF5.out.below hb6)
 have Hb56 := hid hb6
 have hB5 : B <= W5.heap.size := by have := HV5.out.lt; omega
 clear HV5 HN5 HT5 hb6 HAp HTF5
 obtain ⟨W6, rfl⟩ := xS w6
 obtain ⟨qe, hqe⟩ := xE (er2 != 0)
 cases qe
 case true =>
  have n6 := (HN6.out.cell 6).trans rfl;have HFa := hid (fail28_any base pl hbl t na er2 W6 HT6.out.te);go_upto_region 13 with fail
  refine wp_region_lit ?_;refine mv (.pointer (some ⟨pl, 0, none⟩)) ?_;refine mv (.pointer (some ⟨pb, 6, none⟩)) ?_;refine mv (.int .i64 na) ?_;refine mv (.int .i64 er2) ?_;refine wpl_enter (some 65) rfl rfl (by go_simp) HFa.out ?_;rintro e w9 ⟨rfl, ⟨er', at', hte, hne⟩, htf⟩;refine ⟨_, rfl, ?_⟩;simp only [Act.put, aQ, aZ, aC];refine mv (.bool false) ?_;refine xn ?_;refine bodyPost_ret (results_tmp rfl _ _ _) rfl ?_;exact ⟨false, rfl, fun h => absurd h (by decide), fun _ => ⟨_, hte, hne (bne_iff_ne.1 hqe)⟩, HTF6.out.trans (htf.wide XTe_XT)⟩
 obtain ⟨n1, hn1⟩ := xE l.length
 obtain ⟨Ao1, co1, hout1⟩ := ownB_shape HT6.out.out
 rw [hn1] at hout1
 have t4 : W6.cell? ⟨pl, 4, none⟩ = some (.slice Ao1 n1 co1) := (Blk.cell HT6.out.te 4).trans (by rw [<- hout1]; rfl)
 have HTl := hid (tell28_any base pl hbl t l s6 na W6 HT6.out.te HT6.out.out (by rw [HT6.out.most]; exact Int.le_refl _) (by omega) (by have := HT6.out.len; omega))
 go_upto_region 14 with fail
 clear hqe
 refine wp_region_lit ?_
 refine mv (.pointer (some ⟨pl, 0, none⟩)) ?_
 refine mv (.pointer (some ⟨pl, 0, none⟩)) ?_
 refine mv (.pointer (some ⟨pl, 4, none⟩)) ?_
 refine mv (.slice Ao1 n1 co1) ?_
 refine mv (.int .i64 (n1 : Int)) ?_
 refine mv (.int .i64 (n1 : Int)) ?_
 refine wpList_nil ?_
 (try simp only [Exit.then])
 clear t4
 have n6 := (HN6.out.cell 6).trans rfl
 go_upto_region 15 with fail
 refine wp_region_lit ?_
 refine mv (.pointer (some ⟨pl, 0, none⟩)) ?_
 refine mv (.string s6) ?_
 refine mv (.pointer (some ⟨pb, 6, none⟩)) ?_
 refine mv (.int .i64 na) ?_
 refine wpl_enter (some 75) rfl rfl (by go_simp) HTl.out ?_
 rintro e w7 ⟨b7, rfl, hb7, ht7⟩
 refine ⟨_, rfl, ?_⟩
 simp only [Act.put, aQ, aZ, aC]
 refine mv (.bool (!b7)) ?_
 refine wpList_nil ?_
 (try simp only [Exit.then])
 clear n6 HTl
 obtain ⟨W7, rfl⟩ := xS w7
 have HTF7 := hid (HTF6.out.trans (ht7.wide XTl_XT))
 have HV7 := hid (HV6.out.tf ht7 rfl)
 have HN7 := hid (HN6.out.tf ht7 rfl)
 cases b7
 ·rw [if_neg (by decide)] at hb7;obtain ⟨er', at', hte, hne⟩ := hb7;go_upto_region 16 with fail
  refine wp_region_lit ?_;refine mv (.bool false) ?_;refine xn ?_;refine bodyPost_ret (results_tmp rfl _ _ _) rfl ?_;exact ⟨false, rfl, fun h => absurd h (by decide), fun _ => ⟨_, hte, hne⟩, HTF7.out⟩
 rw [if_pos rfl] at hb7
 obtain ⟨hle, vo, hte, ho⟩ := hb7
 rw [HT6.out.most] at hle
 obtain ⟨n2, hn2⟩ := xE (l ++ s6.data.toList).length
 have hl2 : n2 = n1 + s6.size := by rw [<- hn2, List.length_append, len_data, hn1]
 obtain ⟨Ao, co, hvo⟩ := ownB_shape ho
 rw [hn2] at hvo
 obtain ⟨l1, hl1⟩ := xE (l ++ s6.data.toList)
 rw [hl1] at ho hn2
 obtain ⟨t1, ht1⟩ : ∃ y : Te, { t with out := vo } = y := ⟨_, rfl⟩
 have HT7 : Hid (TS base pl us t1 l1 hs (nt + s6.size) W7) := hid (by
  rw [<- ht1];refine ⟨hte, HT6.out.us_, HT6.out.fuel, HT6.out.most, HT6.out.u0, HT6.out.u1, ho, by omega, own_tfX HT6.out.holes ht7 rfl, ?_, HT6.out.trace, HT6.out.fine⟩;have := HT6.out.sum;omega)
 obtain ⟨nh, hnh⟩ := xE hs.length
 have Hnh := hid hnh
 obtain ⟨Ah, ch, hh6⟩ := own_shape (by have := HT7.out.holes; rw [hnh] at this; exact this)
 have H6 : Hid (t1.holes = .slice Ah nh ch) := hid hh6
 have H4 : Hid (t1.out = .slice Ao n2 co) := hid (by rw [<- ht1]; exact hvo)
 have Hn12 : Hid (n2 = n1 + s6.size /\ (n1 <= n2 /\ n2 <= 65536)) := hid ⟨hl2, by omega, by have h1 := HT7.out.len; omega⟩
 have hpl6 := HT6.out.lt
 have Hb57 : Hid (Below B W5 W7) := hid ((Hb56.out.mono hB5).trans ((ht7.to_below (by omega)).mono hB))
 have hnhz : nh <= 65536 := by omega
 have HPr := hid (fun (W : World) (hb : Below B W5 W) => print23_any kr mr xr lr' ksr' nlr nkr hnl' hnk' hN' Alr Akr clr ckr W (rows_any (rows_low Hlr.out hb)) (rows_any (rows_low Hkr.out hb)))
 clear hte ho hle hvo hl1 ht1 hh6 ht7 hpl6 HT6 HTF6 HV6 HN6 hnh hl2 hn2 hn1 hout1
 have hL : W7.drew.cell? ⟨pl, 6, none⟩ = some (.slice Ah nh ch) /\ W7.drew.cell? ⟨pl, 4, none⟩ = some (.slice Ao n2 co) /\ Blk W7.drew pb 52 #[.int .i64 2, .string x, .string nm, .slice Ap np cp, .slice Ab 0 cb, .slice Ae 0 ce, .int .i64 na, .int .i64 ne, .int .i64 nu] /\ Blk W7.drew (pb + 2) 25 #[.int .i64 kr, .int .i64 mr, .string xr, .slice Alr nlr clr, .slice Akr nkr ckr] := ⟨(Blk.cell HT7.out.te 6).trans (by rw [<- H6.out]; rfl), (Blk.cell HT7.out.te 4).trans (by rw [<- H4.out]; rfl), HN7.out, HV7.out⟩
 go_upto_region 17 with fail
 refine wp_region_L (S := fun l' wy => (l'.getD 20 true = false -> wy.cell? ⟨pl, 6, none⟩ = some (.slice Ah nh ch)) /\ wy.cell? ⟨pl, 4, none⟩ = some (.slice Ao n2 co) /\ Blk wy pb 52 #[.int .i64 2, .string x, .string nm, .slice Ap np cp, .slice Ab 0 cb, .slice Ae 0 ce, .int .i64 na, .int .i64 ne, .int .i64 nu] /\ Blk wy (pb + 2) 25 #[.int .i64 kr, .int .i64 mr, .string xr, .slice Alr nlr clr, .slice Akr nkr ckr]) (by kernel_rfl) ⟨fun _ => hL.1, hL.2⟩ (fun hHeld => ?_)
 clear hHeld
 have HT8 := hid (HT7.out.below (Below.refl _ _).drew)
 have HTF8 := hid (HTF7.out.below (Below.refl _ _).drew)
 have Hb8 : Hid (Below B W5 W7.drew) := hid (Hb57.out.trans (Below.refl _ _).drew)
 obtain ⟨W8, hW8⟩ := xE W7.drew
 rw [hW8] at hL HT8 HTF8 Hb8 ⊢
 clear hW8 HT7 HTF7
 refine tl 0 77 (.pointer (some ⟨pl, 0, none⟩)) rfl ⟨fun _ => hL.1, hL.2⟩ (fun hNew => ?_)
 clear hNew
 simp only [Act.put, aQ, aZ, aC]
 refine tl 1 78 (.pointer (some ⟨pl, 0, none⟩)) rfl ⟨fun _ => hL.1, hL.2⟩ (fun hNew => ?_)
 clear hNew
 simp only [Act.put, aQ, aZ, aC]
 refine tl 2 79 (.pointer (some ⟨pl, 0, none⟩)) rfl ⟨fun _ => hL.1, hL.2⟩ (fun hNew => ?_)
 clear hNew
 simp only [Act.put, aQ, aZ, aC]
 refine tl 3 80 (.pointer (some ⟨pl, 6, none⟩)) rfl ⟨fun _ => hL.1, hL.2⟩ (fun hNew => ?_)
 clear hNew
 simp only [Act.put, aQ, aZ, aC]
 refine tlq [17,20] 4 81 (.slice Ah nh ch) rfl (yc pl 6 fun _ h => by obtain ⟨l, hn, h1, _⟩ := h; exact h1 (hn 20 (by simp))) ⟨fun _ => hL.1, hL.2⟩ (fun hNew => ?_)
 clear hNew
 simp only [Act.put, aQ, aZ, aC]
 refine tl 5 82 (.int .i64 (n1 : Int)) rfl ⟨fun _ => hL.1, hL.2⟩ (fun hNew => ?_)
 clear hNew
 simp only [Act.put, aQ, aZ, aC]
 refine tl 6 83 (.pointer (some ⟨pl, 0, none⟩)) rfl ⟨fun _ => hL.1, hL.2⟩ (fun hNew => ?_)
 clear hNew
 simp only [Act.put, aQ, aZ, aC]
 refine tl 7 84 (.pointer (some ⟨pl, 0, none⟩)) rfl ⟨fun _ => hL.1, hL.2⟩ (fun hNew => ?_)
 clear hNew
 simp only [Act.put, aQ, aZ, aC]
 refine tl 8 85 (.pointer (some ⟨pl, 4, none⟩)) rfl ⟨fun _ => hL.1, hL.2⟩ (fun hNew => ?_)
 clear hNew
 simp only [Act.put, aQ, aZ, aC]
 refine tlq [] 9 86 (.slice Ao n2 co) rfl (yc pl 4 fun _ h => by obtain ⟨l, hn, _, h2, _⟩ := h; exact h2) ⟨fun _ => hL.1, hL.2⟩ (fun hNew => ?_)
 clear hNew
 simp only [Act.put, aQ, aZ, aC]
 refine tl 10 87 (.int .i64 (n2 : Int)) rfl ⟨fun _ => hL.1, hL.2⟩ (fun hNew => ?_)
 clear hNew
 simp only [Act.put, aQ, aZ, aC]
 refine tl 11 88 (.pointer (some ⟨pb, 7, none⟩)) rfl ⟨fun _ => hL.1, hL.2⟩ (fun hNew => ?_)
 clear hNew
 simp only [Act.put, aQ, aZ, aC]
 refine tlq [] 12 89 (.int .i64 ne) rfl (yc pb 7 fun _ h => by obtain ⟨l, hn, _, _, h3, _⟩ := h; exact (h3.cell 7).trans rfl) ⟨fun _ => hL.1, hL.2⟩ (fun hNew => ?_)
 clear hNew
 simp only [Act.put, aQ, aZ, aC]
 refine tlq [] 13 90 (.agg #[.int .i64 kr, .int .i64 mr, .string xr, .slice Alr nlr clr, .slice Akr nkr ckr]) rfl (yl [.int .i64 kr, .int .i64 mr, .string xr, .slice Alr nlr clr, .slice Akr nkr ckr] (fun w h => by obtain ⟨l, hn, _, _, _, h4⟩ := h; exact h4)) ⟨fun _ => hL.1, hL.2⟩ (fun hNew => ?_)
 clear hNew
 simp only [Act.put, aQ, aZ, aC]
 refine rL [14] (AllL.cons rfl (by rfl) (callO (some 91) rfl (args := #[.agg #[.int .i64 kr, .int .i64 mr, .string xr, .slice Alr nlr clr, .slice Akr nkr ckr]]) (by go_simp) (HPr.out W8 Hb8.out) (fun e w9 hR => ?_)) AllL.nil)
 obtain ⟨ps, rfl, hps, hb9⟩ := hR
 have HT9 := hid (HT8.out.below hb9)
 have HTF9 := hid (HTF8.out.below hb9)
 have hL9 : w9.cell? ⟨pl, 6, none⟩ = some (.slice Ah nh ch) /\ w9.cell? ⟨pl, 4, none⟩ = some (.slice Ao n2 co) /\ Blk w9 pb 52 #[.int .i64 2, .string x, .string nm, .slice Ap np cp, .slice Ab 0 cb, .slice Ae 0 ce, .int .i64 na, .int .i64 ne, .int .i64 nu] /\ Blk w9 (pb + 2) 25 #[.int .i64 kr, .int .i64 mr, .string xr, .slice Alr nlr clr, .slice Akr nkr ckr] := ⟨(Blk.cell HT9.out.te 6).trans (by rw [<- H6.out]; rfl), (Blk.cell HT9.out.te 4).trans (by rw [<- H4.out]; rfl), hL.2.2.1.below hb9 hL.2.2.1.lt, hL.2.2.2.below hb9 hL.2.2.2.lt⟩
 refine ⟨_, rfl, ⟨fun _ => hL9.1, hL9.2⟩, ?_⟩
 simp only [Act.put, aQ, aZ, aC]
 refine tl 15 92 (.agg #[.int .i64 (n1 : Int), .int .i64 (n2 : Int), .int .i64 ne, .string ps]) rfl ⟨fun _ => hL9.1, hL9.2⟩ (fun hNew => ?_)
 clear hNew
 simp only [Act.put, aQ, aZ, aC]
 have hal : Below w9.heap.size w9 (w9.alloc (.cells #[.int .i64 (n1 : Int), .int .i64 (n2 : Int), .int .i64 ne, .string ps] 46)) := alloc_below _ _
 have HBh : Hid (Blk (w9.alloc (.cells #[.int .i64 (n1 : Int), .int .i64 (n2 : Int), .int .i64 ne, .string ps] 46)) w9.heap.size 46 #[.int .i64 (n1 : Int), .int .i64 (n2 : Int), .int .i64 ne, .string ps]) := hid (Blk.new _ _ _)
 have HTa := hid (HT9.out.below hal)
 have HTFa := hid (HTF9.out.below hal)
 have hbase : base <= (w9.alloc (.cells #[.int .i64 (n1 : Int), .int .i64 (n2 : Int), .int .i64 ne, .string ps] 46)).heap.size := by have := HTa.out.lt; omega
 have hLa := And.intro (hal.cell (p := ⟨pl, 6, none⟩) HT9.out.lt |>.trans hL9.1) (And.intro (hal.cell (p := ⟨pl, 4, none⟩) HT9.out.lt |>.trans hL9.2.1) (And.intro (hL9.2.2.1.below hal hL9.2.2.1.lt) (hL9.2.2.2.below hal hL9.2.2.2.lt)))
 refine rL [16] (AllL.cons rfl (by rfl) (valO (some 93) rfl (.slice (some ⟨w9.heap.size, 0, none⟩) 1 1) (w9.alloc (.cells #[.int .i64 (n1 : Int), .int .i64 (n2 : Int), .int .i64 ne, .string ps] 46)) (by go_simp) ⟨⟨fun _ => hLa.1, hLa.2⟩, ?_⟩) AllL.nil)
 simp only [Act.put, aQ, aZ, aC]
 obtain ⟨Wa, hWa⟩ := xE (w9.alloc (.cells #[.int .i64 (n1 : Int), .int .i64 (n2 : Int), .int .i64 ne, .string ps] 46))
 obtain ⟨gh, hgh⟩ := xE w9.heap.size
 rw [hWa] at HBh HTa HTFa hbase hLa ⊢
 rw [hgh] at HBh ⊢
 clear hWa hgh hal hL9 HT9 HTF9 HT8 HTF8 hL
 have Hsum := hid HTa.out.sum
 have hho := HTa.out.holes
 rw [Hnh.out, H6.out] at hho
 refine rL [17] (AllL.cons rfl (by rfl) (pushO (some 94) rfl _ _ rfl Tryz.underlying38 info_Hole hho rfl rfl HBh.out rfl (by simp [Value.oneCell']) (by omega) hbase (fun v' Wb ho4 hg4 hv4 => ?_)) AllL.nil)
 obtain ⟨Ah2, ch2, rfl⟩ := own_shape ho4
 have hty : ∀ g, (Value.slice Ah nh ch).ownBlock = some g -> ∃ cs, Wa.heap[g]? = some (.cells cs 46 (0, 0)) := own_typed hho
 have hte4 : TeAt pl t1 Wb := Blk.grown HTa.out.te hg4 fun e => by obtain ⟨cs, hc⟩ := hty pl e.symm; exact Blk.ne_ HTa.out.te hc (by decide) rfl
 have hout4 : OwnB Wb base t1.out l1 := ownB_same HTa.out.out fun g cur hg hc => hg4.block g (heap_lt hc) fun e => by obtain ⟨cs, hc'⟩ := hty g e.symm; rw [hc'] at hc; injection hc with hc; injection hc with _ h2; exact absurd h2 (by decide)
 have hN4 := Blk.grown hLa.2.2.1 hg4 fun e => by obtain ⟨cs, hc⟩ := hty pb e.symm; exact Blk.ne_ hLa.2.2.1 hc (by decide) rfl
 have hV4 := Blk.grown hLa.2.2.2 hg4 fun e => by obtain ⟨cs, hc⟩ := hty (pb + 2) e.symm; exact Blk.ne_ hLa.2.2.2 hc (by decide) rfl
 have HTFb : Hid (TF XT base w0 Wb) := hid (HTFa.out.grown hg4 fun g hg => by obtain ⟨cs, hc⟩ := hty g hg; exact .inr ⟨(hho.lt g hg).1, _, _, _, hc, rfl⟩)
 have hL4 : Wb.cell? ⟨pl, 6, none⟩ = some (.slice Ah nh ch) /\ Wb.cell? ⟨pl, 4, none⟩ = some (.slice Ao n2 co) /\ Blk Wb pb 52 #[.int .i64 2, .string x, .string nm, .slice Ap np cp, .slice Ab 0 cb, .slice Ae 0 ce, .int .i64 na, .int .i64 ne, .int .i64 nu] /\ Blk Wb (pb + 2) 25 #[.int .i64 kr, .int .i64 mr, .string xr, .slice Alr nlr clr, .slice Akr nkr ckr] := ⟨(Blk.cell hte4 6).trans (by rw [<- H6.out]; rfl), (Blk.cell hte4 4).trans (by rw [<- H4.out]; rfl), hN4, hV4⟩
 refine ⟨⟨fun _ => hL4.1, hL4.2⟩, ?_⟩
 simp only [Act.put, aQ, aZ, aC]
 refine tl 18 95 (.pointer (some ⟨pl, 0, none⟩)) rfl ⟨fun _ => hL4.1, hL4.2⟩ (fun hNew => ?_)
 clear hNew
 simp only [Act.put, aQ, aZ, aC]
 refine tl 19 96 (.pointer (some ⟨pl, 6, none⟩)) rfl ⟨fun _ => hL4.1, hL4.2⟩ (fun hNew => ?_)
 clear hNew
 simp only [Act.put, aQ, aZ, aC]
 have c6 := hL4.1
 have f6 := Blk.frozen hte4 6
 have hte5 := Blk.set_ hte4 6 (.slice Ah2 (nh + 1) ch2)
 have hne5 : ∀ {g ty} {cs : Array Value}, Blk Wb g ty cs -> ty ≠ 64 -> g ≠ pl := fun hB ht => Blk.ne_ hB hte4 ht
 have hS5 : (Wb.setCell ⟨pl, 6, none⟩ (.slice Ah2 (nh + 1) ch2)).cell? ⟨pl, 4, none⟩ = some (.slice Ao n2 co) /\ Blk (Wb.setCell ⟨pl, 6, none⟩ (.slice Ah2 (nh + 1) ch2)) pb 52 #[.int .i64 2, .string x, .string nm, .slice Ap np cp, .slice Ab 0 cb, .slice Ae 0 ce, .int .i64 na, .int .i64 ne, .int .i64 nu] /\ Blk (Wb.setCell ⟨pl, 6, none⟩ (.slice Ah2 (nh + 1) ch2)) (pb + 2) 25 #[.int .i64 kr, .int .i64 mr, .string xr, .slice Alr nlr clr, .slice Akr nkr ckr] := ⟨(Blk.cell hte5 4).trans (by rw [<- H4.out]; rfl), Blk.far (p := ⟨pl, 6, none⟩) hN4 (hne5 hN4 (by decide)) _, Blk.far (p := ⟨pl, 6, none⟩) hV4 (hne5 hV4 (by decide)) _⟩
 refine rL [20] (AllL.cons rfl (by rfl) (cellO rfl (Wb.setCell ⟨pl, 6, none⟩ (.slice Ah2 (nh + 1) ch2)) (.inl rfl) (by go_simp) ⟨⟨fun h => absurd h (by decide), hS5⟩, ?_⟩) AllL.nil)
 clear c6 f6
 refine doneL (by kernel_rfl) ?_ _
 (try simp only [Exit.then])
 have hTend : TS base pl us { t1 with holes := .slice Ah2 (nh + 1) ch2 } l1 (hs ++ [⟨n1, n2, ne, ps⟩]) nt (Wb.setCell ⟨pl, 6, none⟩ (.slice Ah2 (nh + 1) ch2)) := by
  refine ⟨?_, HTa.out.us_, HTa.out.fuel, HTa.out.most, HTa.out.u0, HTa.out.u1, ownB_same hout4 fun g cur _ hc => Below.heap_setCell Wb _ _ g (by rintro rfl; exact Blk.ne_ hte4 hc (by decide) rfl), HTa.out.len, ?_, ?_, HTa.out.trace, fun q hq => ?_⟩
  ·simp only [List.setIfInBounds_toArray, List.set_cons_zero, List.set_cons_succ] at hte5;exact hte5
  ·rw [List.length_append, List.map_append, List.flatten_append, Hnh.out];have := own_far ho4 (own_ne ho4 hte4 (by decide)) 6 (.slice Ah2 (nh + 1) ch2)
   simpa [Ho.row] using this
  ·rw [hoSum_snoc];show hoSum hs + (n2 - n1) + nt = l1.length;have h1 := Hsum.out;have h2 := Hn12.out;omega
  rcases List.mem_append.1 hq with k | k
  ·exact HTa.out.fine q k
  rw [List.mem_singleton.1 k]; exact Hn12.out.2
 have HTend := hid hTend
 have HTFe : Hid (TF XT base w0 (Wb.setCell ⟨pl, 6, none⟩ (.slice Ah2 (nh + 1) ch2))) := hid (HTFb.out.setCell (p := ⟨pl, 6, none⟩) (.inr ⟨hbl, _, _, _, hte4, rfl⟩) _)
 clear hTend hS5 hte5 hL4 hN4 hV4 hout4 hte4
 go_upto_region 42 with fail
 refine wp_region_lit ?_
 refine mv (.bool true) ?_
 refine xn ?_
 refine bodyPost_ret (results_tmp rfl _ _ _) rfl ?_
 exact ⟨true, rfl, fun _ => ⟨_, _, _, HTend.out, by rw [List.length_append]; rfl⟩, fun h => absurd h (by decide), HTFe.out⟩
end Go.Proofs.YtkcnmjdomipbjaaGreat
