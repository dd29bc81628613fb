import Derived.Test.YtkcnmjdomipbjaaGreatS46
import Derived.Test.YtkcnmjdomipbjaaGreatS52
set_option linter.unusedVariables false
set_option maxHeartbeats 100000000
set_option maxRecDepth 100000
namespace Go.Proofs.YtkcnmjdomipbjaaGreat
open Go.RowKit
section
variable {base pl nt : Nat} {us : Value} {t : Te} {l : List UInt8} {hs : List Ho} {wx : World}
theorem TS.deep_ (h : TS base pl us t l hs nt wx) (hbl : base <= pl) (d : Int) : TS base pl us { t with deep := d } l hs nt (wx.setCell ⟨pl, 7, none⟩ (.int .i64 d)) /\ TF XT base wx (wx.setCell ⟨pl, 7, none⟩ (.int .i64 d)) := by
 have hte := Blk.set_ h.te 7 (.int .i64 d)
 simp only [List.setIfInBounds_toArray, List.set_cons_zero, List.set_cons_succ] at hte
 exact ⟨⟨hte, h.us_, h.fuel, h.most, h.u0, h.u1, ownB_same h.out fun g cur _ hc => Below.heap_setCell wx _ _ g (by rintro rfl; exact Blk.ne_ h.te hc (by decide) rfl), h.len, own_far h.holes (own_ne h.holes h.te (by decide)) 7 _, h.sum, h.trace, h.fine⟩, TF.refl.setCell (p := ⟨pl, 7, none⟩) (.inr ⟨hbl, _, _, _, h.te, rfl⟩) _⟩
theorem TFl.deep_ (hbl : base <= pl) (h : TeAt pl t wx) (he : t.er ≠ 0) (d : Int) : TFl pl (wx.setCell ⟨pl, 7, none⟩ (.int .i64 d)) /\ TF XT base wx (wx.setCell ⟨pl, 7, none⟩ (.int .i64 d)) := by
 have hte := Blk.set_ h 7 (.int .i64 d)
 simp only [List.setIfInBounds_toArray, List.set_cons_zero, List.set_cons_succ] at hte
 exact ⟨⟨{ t with deep := d }, hte, he⟩, TF.refl.setCell (p := ⟨pl, 7, none⟩) (.inr ⟨hbl, _, _, _, h, rfl⟩) _⟩
end
theorem enter28_any (base pl : Nat) (hbl : base <= pl) (ad : Addr) (cu : Nat) (t : Te) (B : Nat) (hB : B <= base) (fs : List Fn) (nb : Nat) (hn : fs.length = nb) (hnz : nb <= 1024) (hok : ∀ f ∈ fs, f.ok) (Ab : Option Addr) (cb : Nat) (v0 v1 v2 v3 v4 : Value) (w : World) (hT : TS base pl (.slice (some ad) 1 cu) t [] [] 0 w) (hd : t.deep = 0) (hv : VdV 1048583 B (.agg #[v0, v1, v2, v3, v4]) w) (had : ad.block < base) (huc : w.cell? ⟨ad.block, ad.off + 17, none⟩ = some (.slice Ab nb cb)) (hr : RowsV w (fun b => b < base) 9 Ab 0 (fnRows fs)) : Calls Tryz.prog 19 #[.pointer (some ⟨pl, 0, none⟩), .int .i64 0, .int .i64 0, .agg #[v0, v1, v2, v3, v4]] w (PNds base pl (.slice (some ad) 1 cu) fs w) := by
 have hus := hT.us_
 obtain ⟨W, hW⟩ := xE (w.alloc (.cells #[v0, v1, v2, v3, v4] 25))
 have hbw : Below w.heap.size w W := by rw [<- hW]; exact alloc_below _ _
 have HX : Hid (Blk W w.heap.size 25 #[v0, v1, v2, v3, v4]) := hid (by rw [<- hW]; exact Blk.new _ _ _)
 have hplw := hT.lt
 have HT := hid (hT.below hbw)
 have Hv := hid (hv.below hbw)
 have Hb := hid hbw
 have Hok := hid hok
 have hrb : RowsV W (fun b => b < base) 9 Ab 0 (fnRows fs) := RowsV.keep hbw.size (fun b hS hl => ⟨hS, hbw.block b hl⟩) _ _ _ 0 hr
 have Hr := hid hrb
 have Huc : Hid (W.cell? ⟨ad.block, ad.off + 17, none⟩ = some (.slice Ab nb cb)) := hid ((hbw.cell (p := ⟨ad.block, ad.off + 17, none⟩) (by show ad.block < _; omega)).trans huc)
 obtain ⟨pb, hpb⟩ := xE w.heap.size
 rw [hpb] at HX
 clear hbw hT hv hr hrb huc hok
 have k7 : W.cell? ⟨pl, 7, none⟩ = some (.int .i64 0) := (Blk.cell HT.out.te 7).trans (by rw [<- hd]; rfl)
 have f7 := Blk.frozen HT.out.te 7
 go_enter Tryz.func19, Tryz.ntmps19
 go_upto_region 3 with fail
 refine wp_region_lit ?_
 refine mv (.pointer (some ⟨pl, 0, none⟩)) ?_
 refine mv (.pointer (some ⟨pl, 0, none⟩)) ?_
 refine mv (.pointer (some ⟨pl, 7, none⟩)) ?_
 refine mv (.int .i64 0) ?_
 refine mv (.int .i64 1) ?_
 refine mv (.pointer (some ⟨pl, 0, none⟩)) ?_
 refine mv (.pointer (some ⟨pl, 7, none⟩)) ?_
 refine wpl_skip (w' := W.setCell ⟨pl, 7, none⟩ (.int .i64 1)) rfl rfl (by go_simp) ?_
 refine wpList_nil ?_
 (try simp only [Exit.then])
 clear k7 f7 hW
 obtain ⟨hT2, hF2⟩ := HT.out.deep_ hbl 1
 have hlo : Below base W (W.setCell ⟨pl, 7, none⟩ (.int .i64 1)) := hF2.to_below (by have := HT.out.lt; omega)
 have HT2 := hid hT2
 have HF2 : Hid (TF XT base w (W.setCell ⟨pl, 7, none⟩ (.int .i64 1))) := hid ((TF.of_below Hb.out).trans hF2)
 have HX2 := hid (HX.out.tf hF2 rfl)
 have Hv2 := hid (Hv.out.keep (hlo.mono hB))
 have Hr2 : Hid (RowsV (W.setCell ⟨pl, 7, none⟩ (.int .i64 1)) (fun b => b < base) 9 Ab 0 (fnRows fs)) := hid (RowsV.keep hlo.size (fun b hS _ => ⟨hS, hlo.block b hS⟩) _ _ _ 0 Hr.out)
 have Huc2 := hid ((hlo.cell (p := ⟨ad.block, ad.off + 17, none⟩) had).trans Huc.out)
 obtain ⟨W2, hW2⟩ := xE (W.setCell ⟨pl, 7, none⟩ (.int .i64 1))
 rw [hW2] at HT2 HF2 HX2 Hv2 Hr2 Huc2 ⊢
 clear hW2 hT2 hF2 hlo HT HX Hv Hr Huc Hb
 go_upto_region 4 with fail
 have hL : W2.drew.cell? ⟨pl, 0, none⟩ = some (.slice (some ad) 1 cu) /\ W2.drew.cell? ⟨ad.block, ad.off + 17, none⟩ = some (.slice Ab nb cb) /\ Blk W2.drew pb 25 #[v0, v1, v2, v3, v4] := ⟨(Blk.cell HT2.out.te 0).trans (by rw [<- hus]; rfl), Huc2.out, HX2.out⟩
 refine wp_region_L (S := fun l' wy => (l'.getD 12 true = false -> wy.cell? ⟨pl, 0, none⟩ = some (.slice (some ad) 1 cu) /\ wy.cell? ⟨ad.block, ad.off + 17, none⟩ = some (.slice Ab nb cb) /\ Blk wy pb 25 #[v0, v1, v2, v3, v4])) (by kernel_rfl) (fun _ => hL) (fun hHeld => ?_)
 clear hHeld
 have HNd := hid (nodes28_any base pl hbl (.slice (some ad) 1 cu) { t with deep := 1 } B hB fs nb hn hnz Hok.out Ab cb v0 v1 v2 v3 v4 W2.drew (HT2.out.below (Below.refl _ _).drew) (Hv2.out.below (Below.refl _ _).drew) (RowsV.below Hr2.out (Below.refl _ _).drew))
 have HF3 := hid (HF2.out.below (Below.refl _ _).drew)
 obtain ⟨W3, hW3⟩ := xE W2.drew
 rw [hW3] at hL HNd HF3 ⊢
 clear hW3 HF2 HT2 HX2 Hv2 Hr2 Huc2
 refine tl 0 25 (.pointer (some ⟨pl, 0, none⟩)) rfl (fun _ => hL) (fun hNew => ?_)
 clear hNew
 simp only [Act.put, aQ, aZ, aC]
 refine tl 1 26 (.pointer (some ⟨pl, 0, none⟩)) rfl (fun _ => hL) (fun hNew => ?_)
 clear hNew
 simp only [Act.put, aQ, aZ, aC]
 refine tl 2 27 (.pointer (some ⟨pl, 0, none⟩)) rfl (fun _ => hL) (fun hNew => ?_)
 clear hNew
 simp only [Act.put, aQ, aZ, aC]
 refine tl 3 28 (.pointer (some ⟨pl, 0, none⟩)) rfl (fun _ => hL) (fun hNew => ?_)
 clear hNew
 simp only [Act.put, aQ, aZ, aC]
 refine tlq [6,7,8,12] 4 29 (.slice (some ad) 1 cu) rfl (yc pl 0 fun _ h => by obtain ⟨l, hn, h1⟩ := h; exact (h1 (hn 12 (by simp))).1) (fun _ => hL) (fun hNew => ?_)
 clear hNew
 simp only [Act.put, aQ, aZ, aC]
 refine tl 5 30 (.int .i64 0) rfl (fun _ => hL) (fun hNew => ?_)
 clear hNew
 simp only [Act.put, aQ, aZ, aC]
 refine tl 6 31 (.pointer (some ad)) rfl (fun _ => hL) (fun hNew => ?_)
 clear hNew
 simp only [Act.put, aQ, aZ, aC]
 refine tl 7 32 (.pointer (some ⟨ad.block, ad.off + 17, none⟩)) rfl (fun _ => hL) (fun hNew => ?_)
 clear hNew
 simp only [Act.put, aQ, aZ, aC]
 refine tlq [12] 8 33 (.slice Ab nb cb) rfl (yc ad.block (ad.off + 17) fun _ h => by obtain ⟨l, hn, h1⟩ := h; exact (h1 (hn 12 (by simp))).2.1) (fun _ => hL) (fun hNew => ?_)
 clear hNew
 simp only [Act.put, aQ, aZ, aC]
 refine tlq [11,12] 9 34 (.agg #[v0, v1, v2, v3, v4]) rfl (yl [v0, v1, v2, v3, v4] (fun w h => by obtain ⟨l, hn, h1⟩ := h; exact (h1 (hn 12 (by simp))).2.2)) (fun _ => hL) (fun hNew => ?_)
 clear hNew
 simp only [Act.put, aQ, aZ, aC]
 refine tlq [11,12] 10 35 (.agg #[v0, v1, v2, v3, v4]) rfl (yl [v0, v1, v2, v3, v4] (fun w h => by obtain ⟨l, hn, h1⟩ := h; exact (h1 (hn 12 (by simp))).2.2)) (fun _ => hL) (fun hNew => ?_)
 clear hNew
 simp only [Act.put, aQ, aZ, aC]
 refine tl 11 36 (.agg #[v0, v1, v2, v3, v4, v0, v1, v2, v3, v4, .slice none 0 0]) rfl (fun _ => hL) (fun hNew => ?_)
 clear hNew
 simp only [Act.put, aQ, aZ, aC]
 refine rL [12] (AllL.cons rfl (by rfl) (callO (some 37) rfl (args := #[.pointer (some ⟨pl, 0, none⟩), .slice Ab nb cb, .agg #[v0, v1, v2, v3, v4, v0, v1, v2, v3, v4, .slice none 0 0]]) (by go_simp) HNd.out (fun e w4 hR => ?_)) AllL.nil)
 obtain ⟨b4, rfl, hs4, hf4, ht4⟩ := hR
 refine ⟨_, rfl, fun h => absurd h (by decide), ?_⟩
 simp only [Act.put, aQ, aZ, aC]
 refine tl 13 9 (.bool b4) rfl (fun h => absurd h (by decide)) (fun hNew => ?_)
 clear hNew
 simp only [Act.put, aQ, aZ, aC]
 refine doneL (by kernel_rfl) ?_ _
 (try simp only [Exit.then])
 have HF4 := hid (HF3.out.trans ht4)
 obtain ⟨t9, hte9, hres⟩ : ∃ t9 : Te, TeAt pl t9 w4 /\ ∀ d, ∃ w5, w4.setCell ⟨pl, 7, none⟩ (.int .i64 d) = w5 /\ (b4 = true -> ∃ t' l' hs', TS base pl (.slice (some ad) 1 cu) t' l' hs' (octs fs) w5 /\ hs'.length = acts fs) /\ (b4 = false -> TFl pl w5) /\ TF XT base w4 w5 := by
  cases b4
  ·obtain ⟨t9, h1, h2⟩ := hf4 rfl;refine ⟨t9, h1, fun d => ⟨_, rfl, fun h => absurd h (by decide), fun _ => (TFl.deep_ hbl h1 h2 d).1, (TFl.deep_ hbl h1 h2 d).2⟩⟩
  obtain ⟨t9, l9, hs9, h1, h2⟩ := hs4 rfl;exact ⟨t9, h1.te, fun d => ⟨_, rfl, fun _ => ⟨_, l9, hs9, (h1.deep_ hbl d).1, h2⟩, fun h => absurd h (by decide), (h1.deep_ hbl d).2⟩⟩
 have Hres := hid hres
 have k7 := (Blk.cell hte9 7).trans rfl
 have f7 := Blk.frozen hte9 7
 clear hs4 hf4 ht4 hres hL HNd HF3 hte9
 go_upto_region 5 with fail
 refine wp_region_lit ?_
 refine mv (.pointer (some ⟨pl, 0, none⟩)) ?_
 refine mv (.pointer (some ⟨pl, 0, none⟩)) ?_
 refine mv (.pointer (some ⟨pl, 7, none⟩)) ?_
 refine mv (.int .i64 t9.deep) ?_
 refine mv (.int .i64 (IntKind.i64.wrap (t9.deep - 1))) ?_
 refine mv (.pointer (some ⟨pl, 0, none⟩)) ?_
 refine mv (.pointer (some ⟨pl, 7, none⟩)) ?_
 refine wpl_skip (w' := w4.setCell ⟨pl, 7, none⟩ (.int .i64 (IntKind.i64.wrap (t9.deep - 1)))) rfl rfl (by go_simp) ?_
 refine wpList_nil ?_
 (try simp only [Exit.then])
 clear k7 f7
 obtain ⟨w5, hw5, r1, r2, r3⟩ := Hres.out (IntKind.i64.wrap (t9.deep - 1))
 rw [hw5]
 clear hw5 Hres
 go_upto_region 6 with fail
 refine wp_region_lit ?_
 refine mv (.bool b4) ?_
 refine mv (.bool b4) ?_
 refine xn ?_
 refine bodyPost_ret (results_tmp rfl _ _ _) rfl ?_
 exact ⟨b4, rfl, r1, r2, HF4.out.trans r3⟩
theorem uReport : (Tryz.prog.info? 40).map (·.size) = some 6 := by kernel_rfl
def PRun (fs : List Fn) (w : World) (e : Ending) (w' : World) : Prop := ∃ (out : ByteArray) (er at_ : Int) (Ah : Option Addr) (nh ch : Nat) (us f : Int), e = .returned (.tuple #[.agg #[.string out, .int .i64 er, .int .i64 at_, .slice none 0 0, .slice Ah nh ch, .int .i64 us], .int .i64 f]) /\ Below w.heap.size w w' /\ (f = 0 -> er = 0 -> ∃ (hs : List Ho) (base : Nat), hs.length = nh /\ w'.ownsRow base 46 4 (.slice Ah nh ch) nh (hs.map Ho.row).flatten /\ nh = acts fs /\ hoSum hs + octs fs = out.size /\ out.size <= 65536 /\ ∀ h ∈ hs, h.a <= h.b /\ h.b <= 65536) /\ (f ≠ 0 ∨ er ≠ 0 -> out = ⟨#[]⟩)
theorem below_put {w wx : World} {pr : Nat} {vs : List Value} (hb : Below w.heap.size w wx) (hp : w.heap.size <= pr) : Below w.heap.size w (wx.setCells pr 0 vs) := hb.trans (below_setCells _ hp)
theorem run28_any (ad : Addr) (cu : Nat) (fs : List Fn) (nb : Nat) (Ab : Option Addr) (cb : Nat) (k m : Int) (x : ByteArray) (l : List Vd) (ks : List ByteArray) (nl nk : Nat) (hnl : l.length = nl) (hnk : ks.length = nk) (hN : (Vd.mk k m x l ks).wt <= 1048583) (Al Ak : Option Addr) (cl ck : Nat) (w : World) (hU : U1 ad fs nb Ab cb w) (hl : RowsV w (fun _ => True) 5 Al 0 (vdRows l)) (hk : RowsV w (fun _ => True) 1 Ak 0 (strRows ks)) : Calls Tryz.prog 8 #[.slice (some ad) 1 cu, .agg #[.int .i64 k, .int .i64 m, .string x, .slice Al nl cl, .slice Ak nk ck], .int .i64 65536, .int .i64 65536] w (PRun fs w) := by
 obtain ⟨W, hW⟩ := xE ((w.alloc (.cells #[.int .i64 k, .int .i64 m, .string x, .slice Al nl cl, .slice Ak nk ck] 25)).alloc (.cells #[.string ⟨#[]⟩, .int .i64 0, .int .i64 0, .slice none 0 0, .slice none 0 0, .int .i64 0] 40))
 have hbw : Below w.heap.size w W := by rw [<- hW]; go_grown
 have HX : Hid (Blk W w.heap.size 25 #[.int .i64 k, .int .i64 m, .string x, .slice Al nl cl, .slice Ak nk ck]) := hid (by rw [<- hW]; exact (Blk.new w _ _).alloc _)
 have HR : Hid (Blk W (w.heap.size + 1) 40 #[.string ⟨#[]⟩, .int .i64 0, .int .i64 0, .slice none 0 0, .slice none 0 0, .int .i64 0]) := hid (by rw [<- hW]; exact Blk.new_at _ _ (by simp) _ _)
 have Hb := hid hbw
 have HU := hid hU
 have Hl := hid hl
 have Hk := hid hk
 have HC28 := hid (check28_any ad cu fs nb Ab cb W (hU.below hbw))
 have HC04 := hid (fun W' (hb : Below w.heap.size w W') => Check04_any k m x l ks nl nk hnl hnk hN Al Ak cl ck W' (hl.below hb) (hk.below hb))
 obtain ⟨pb, hpb⟩ := xE w.heap.size
 rw [hpb] at HX HR
 clear hbw hU hl hk
 go_enter Tryz.func8, Tryz.ntmps8
 have hsz := hpb
 go_upto_region 2 with (go_at_call 18; refine HC28.out.mono ?_; rintro e w1 ⟨n1, rfl, hb1⟩)
 clear hW
 have HX1 := hid (HX.out.below hb1 HX.out.lt)
 have HR1 := hid (HR.out.below hb1 HR.out.lt)
 have Hb1 := hid (Hb.out.trans (hb1.mono Hb.out.size))
 clear hb1 HX HR Hb HC28
 obtain ⟨W1, rfl⟩ := xS w1
 obtain ⟨q1, hq1⟩ := xE (n1 == 0)
 cases q1
 case false =>
  have hne : n1 ≠ 0 := beq_eq_false_iff_ne.1 hq1;have hneb : (n1 != 0) = true := bne_iff_ne.2 hne;go_upto_region 7 with fail
  refine wp_region_lit ?_;refine mv (.agg #[.string ⟨#[]⟩, .int .i64 0, .int .i64 0, .slice none 0 0, .slice none 0 0, .int .i64 0]) ?_;refine mv (.int .i64 n1) ?_;refine st [.string ⟨#[]⟩, .int .i64 0, .int .i64 0, .slice none 0 0, .slice none 0 0, .int .i64 0] HR1.out ?_;refine mv (.int .i64 n1) ?_;refine xn ?_;refine rc1 (pb + 1) (Blk.put (vs := [.string ⟨#[]⟩, .int .i64 0, .int .i64 0, .slice none 0 0, .slice none 0 0, .int .i64 0]) HR1.out rfl) ?_;exact ⟨_, _, _, _, _, _, _, _, rfl, below_put Hb1.out (by omega), fun h => absurd h hne, fun _ => rfl⟩
 have HC4 := hid (HC04.out W1 Hb1.out)
 obtain ⟨⟨c0, c1, c2, c3, c4⟩, -⟩ := blk5_cells HX1.out
 go_upto_region 4 with (go_at_call 7; refine HC4.out.mono ?_; rintro e w2 ⟨n2, rfl, hb2⟩)
 have HX2 := hid (HX1.out.below hb2 HX1.out.lt)
 have HR2 := hid (HR1.out.below hb2 HR1.out.lt)
 have Hb2 := hid (Hb1.out.trans (hb2.mono Hb1.out.size))
 clear hb2 HX1 HR1 Hb1 HC4 HC04 c0 c1 c2 c3 c4 hq1
 obtain ⟨W2, rfl⟩ := xS w2
 obtain ⟨q2, hq2⟩ := xE (n2 == 0)
 cases q2
 case false =>
  have hne : n2 ≠ 0 := beq_eq_false_iff_ne.1 hq2;have hneb : (n2 != 0) = true := bne_iff_ne.2 hne;go_upto_region 7 with fail
  refine wp_region_lit ?_;refine mv (.agg #[.string ⟨#[]⟩, .int .i64 0, .int .i64 0, .slice none 0 0, .slice none 0 0, .int .i64 0]) ?_;refine mv (.int .i64 n2) ?_;refine st [.string ⟨#[]⟩, .int .i64 0, .int .i64 0, .slice none 0 0, .slice none 0 0, .int .i64 0] HR2.out ?_;refine mv (.int .i64 n2) ?_;refine xn ?_;refine rc1 (pb + 1) (Blk.put (vs := [.string ⟨#[]⟩, .int .i64 0, .int .i64 0, .slice none 0 0, .slice none 0 0, .int .i64 0]) HR2.out rfl) ?_;exact ⟨_, _, _, _, _, _, _, _, rfl, below_put Hb2.out (by omega), fun h => absurd h hne, fun _ => rfl⟩
 have he : n2 = 0 := by simpa using hq2
 have hneb : (n2 != 0) = false := by rw [he]; rfl
 go_upto_region 8 with fail
 clear hneb hq2
 refine wp_region_lit ?_
 refine mv (.slice (some ad) 1 cu) ?_
 refine mv (.int .i64 65536) ?_
 refine mv (.int .i64 65536) ?_
 refine mv (.agg #[.slice (some ad) 1 cu, .int .i64 65536, .int .i64 65536, .int .i64 0, .slice none 0 0, .slice none 0 0, .slice none 0 0, .int .i64 0, .int .i64 0, .int .i64 0]) ?_
 refine wpl_val (some 44) (v := .pointer (some ⟨W2.heap.size, 0, none⟩)) (w' := W2.alloc (.cells #[.slice (some ad) 1 cu, .int .i64 65536, .int .i64 65536, .int .i64 0, .slice none 0 0, .slice none 0 0, .slice none 0 0, .int .i64 0, .int .i64 0, .int .i64 0] 64)) rfl rfl (by go_simp) ?_
 simp only [Act.put, aQ, aZ, aC]
 refine mv (.pointer (some ⟨W2.heap.size, 0, none⟩)) ?_
 refine wpList_nil ?_
 (try simp only [Exit.then])
 have hal : Below W2.heap.size W2 (W2.alloc (.cells #[.slice (some ad) 1 cu, .int .i64 65536, .int .i64 65536, .int .i64 0, .slice none 0 0, .slice none 0 0, .slice none 0 0, .int .i64 0, .int .i64 0, .int .i64 0] 64)) := alloc_below _ _
 have HT3 : Hid (TS W2.heap.size W2.heap.size (.slice (some ad) 1 cu) ⟨.slice (some ad) 1 cu, 65536, 65536, 0, .slice none 0 0, .slice none 0 0, .slice none 0 0, 0, 0, 0⟩ [] [] 0 (W2.alloc (.cells #[.slice (some ad) 1 cu, .int .i64 65536, .int .i64 65536, .int .i64 0, .slice none 0 0, .slice none 0 0, .slice none 0 0, .int .i64 0, .int .i64 0, .int .i64 0] 64))) := hid ⟨Blk.new _ _ _, rfl, rfl, rfl, (show (0 : Int) <= 0 by decide), (show (0 : Int) <= 65536 by decide), OwnB.nil _ _, Nat.zero_le _, World.ownsRow_nil _ _ _ _, rfl, rfl, fun h k => by cases k⟩
 have HX3 := hid (HX2.out.below hal HX2.out.lt)
 have HR3 := hid (HR2.out.below hal HR2.out.lt)
 have Hb3 := hid (Hb2.out.trans (hal.mono Hb2.out.size))
 have hpl : pb + 1 < W2.heap.size := HR2.out.lt
 have hadl : ad.block < W2.heap.size := by have := HU.out.lt; have := Hb2.out.size; omega
 have Hrb : Hid (RowsV (W2.alloc (.cells #[.slice (some ad) 1 cu, .int .i64 65536, .int .i64 65536, .int .i64 0, .slice none 0 0, .slice none 0 0, .slice none 0 0, .int .i64 0, .int .i64 0, .int .i64 0] 64)) (fun b => b < W2.heap.size) 9 Ab 0 (fnRows fs)) := hid (RowsV.keep hal.size (fun b hS hl => ⟨hl, hal.block b hl⟩) _ _ _ 0 (HU.out.rows.below Hb2.out))
 have Huc : Hid ((W2.alloc (.cells #[.slice (some ad) 1 cu, .int .i64 65536, .int .i64 65536, .int .i64 0, .slice none 0 0, .slice none 0 0, .slice none 0 0, .int .i64 0, .int .i64 0, .int .i64 0] 64)).cell? ⟨ad.block, ad.off + 17, none⟩ = some (.slice Ab nb cb)) := hid ((hal.cell (p := ⟨ad.block, ad.off + 17, none⟩) hadl).trans ((Hb2.out.cell (p := ⟨ad.block, ad.off + 17, none⟩) HU.out.lt).trans HU.out.cell))
 have Hvd : Hid (VdV 1048583 W2.heap.size (.agg #[.int .i64 k, .int .i64 m, .string x, .slice Al nl cl, .slice Ak nk ck]) (W2.alloc (.cells #[.slice (some ad) 1 cu, .int .i64 65536, .int .i64 65536, .int .i64 0, .slice none 0 0, .slice none 0 0, .slice none 0 0, .int .i64 0, .int .i64 0, .int .i64 0] 64))) := hid ⟨k, m, x, l, ks, nl, nk, Al, Ak, cl, ck, rfl, hnl, hnk, hN, RowsV.keep hal.size (fun b hS hl => ⟨hl, hal.block b hl⟩) _ _ _ 0 (Hl.out.below Hb2.out), RowsV.keep hal.size (fun b hS hl => ⟨hl, hal.block b hl⟩) _ _ _ 0 (Hk.out.below Hb2.out)⟩
 obtain ⟨W3, hW3⟩ := xE (W2.alloc (.cells #[.slice (some ad) 1 cu, .int .i64 65536, .int .i64 65536, .int .i64 0, .slice none 0 0, .slice none 0 0, .slice none 0 0, .int .i64 0, .int .i64 0, .int .i64 0] 64))
 have hwpl : w.heap.size <= W2.heap.size := Hb2.out.size
 rw [hW3] at HT3 HX3 HR3 Hb3 Hrb Huc Hvd ⊢
 obtain ⟨pl, hplx⟩ := xE W2.heap.size
 rw [hplx] at HT3 hpl hadl Hrb Hvd hwpl ⊢
 clear hW3 hplx hal HX2 HR2 Hb2
 have HEn := hid (enter28_any pl pl (Nat.le_refl _) ad cu ⟨.slice (some ad) 1 cu, 65536, 65536, 0, .slice none 0 0, .slice none 0 0, .slice none 0 0, 0, 0, 0⟩ pl (Nat.le_refl _) fs nb HU.out.len HU.out.max HU.out.ok Ab cb _ _ _ _ _ W3 HT3.out rfl Hvd.out hadl Huc.out Hrb.out)
 go_upto_region 9 with fail
 refine wp_region_lit ?_
 refine mv (.pointer (some ⟨pl, 0, none⟩)) ?_
 refine ld [.int .i64 k, .int .i64 m, .string x, .slice Al nl cl, .slice Ak nk ck] HX3.out ?_
 refine wpl_enter (some 47) rfl rfl (by go_simp) HEn.out ?_
 rintro e w4 ⟨b4, rfl, hs4, hf4, ht4⟩
 refine ⟨_, rfl, ?_⟩
 simp only [Act.put, aQ, aZ, aC]
 refine mv (.bool (!b4)) ?_
 refine wpList_nil ?_
 (try simp only [Exit.then])
 have HR4 := hid (HR3.out.tf ht4 rfl)
 have hlow4 := ht4.to_below (by have := HT3.out.lt; omega)
 have Hb4 := hid (Hb3.out.trans (hlow4.mono hwpl))
 clear HX3 HR3 HT3 Hrb Huc Hvd HEn Hb3 hlow4 ht4
 obtain ⟨W4, rfl⟩ := xS w4
 cases b4
 ·obtain ⟨t, hte, hne⟩ := hf4 rfl;clear hs4 hf4;go_upto_region 10 with fail
  refine wp_region_held_drew (S := fun wy => TeAt pl t wy) (by kernel_rfl) hte (fun hHeld => ?_);refine tk 0 49 (.pointer (some ⟨pl, 0, none⟩)) rfl hHeld ?_;refine tk 1 50 (.pointer (some ⟨pl, 0, none⟩)) rfl hHeld ?_;refine tk 2 51 (.pointer (some ⟨pl, 8, none⟩)) rfl hHeld ?_;refine tq 3 52 (.int .i64 t.er) rfl (yc pl 8 fun _ h => (Blk.cell h 8).trans rfl) hHeld ?_;refine tk 4 53 (.pointer (some ⟨pl, 0, none⟩)) rfl hHeld ?_;refine tk 5 54 (.pointer (some ⟨pl, 0, none⟩)) rfl hHeld ?_;refine tk 6 55 (.pointer (some ⟨pl, 9, none⟩)) rfl hHeld ?_;refine tq 7 56 (.int .i64 t.at_) rfl (yc pl 9 fun _ h => (Blk.cell h 9).trans rfl) hHeld ?_;refine tk 8 57 (.pointer (some ⟨pl, 0, none⟩)) rfl hHeld ?_;refine tk 9 58 (.pointer (some ⟨pl, 0, none⟩)) rfl hHeld ?_;refine tk 10 59 (.pointer (some ⟨pl, 3, none⟩)) rfl hHeld ?_;refine tq 11 60 (.int .i64 t.used) rfl (yc pl 3 fun _ h => (Blk.cell h 3).trans rfl) hHeld ?_;refine tk 12 61 (.agg #[.string ⟨#[]⟩, .int .i64 t.er, .int .i64 t.at_, .slice none 0 0, .slice none 0 0, .int .i64 t.used]) rfl hHeld ?_;refine wpAnyH_ready (rs := [13]) (by kernel_rfl) (by simp) ?_;have hBR : Blk W4.drew (pb + 1) 40 #[.string ⟨#[]⟩, .int .i64 0, .int .i64 0, .slice none 0 0, .slice none 0 0, .int .i64 0] := HR4.out;refine storeH 13 (g := pb + 1) (l := [.string ⟨#[]⟩, .int .i64 t.er, .int .i64 t.at_, .slice none 0 0, .slice none 0 0, .int .i64 t.used]) rfl rfl (by rfl) _ _ rfl rfl rfl hBR rfl rfl uReport ?_ AllReadyH.nil;have hH2 : TeAt pl t (W4.drew.setCells (pb + 1) 0 [.string ⟨#[]⟩, .int .i64 t.er, .int .i64 t.at_, .slice none 0 0, .slice none 0 0, .int .i64 t.used]) := Blk.farC hHeld (by omega) _ _;refine ⟨hH2, ?_⟩;refine tk 14 9 (.int .i64 0) rfl hH2 ?_;refine xh ?_;refine rc1 (pb + 1) (Blk.put (vs := [.string ⟨#[]⟩, .int .i64 t.er, .int .i64 t.at_, .slice none 0 0, .slice none 0 0, .int .i64 t.used]) hBR rfl) ?_;exact ⟨_, _, _, _, _, _, _, _, rfl, below_put (Hb4.out.trans (Below.refl _ _).drew) (by omega), fun _ h => absurd h hne, fun _ => rfl⟩
 obtain ⟨t, l9, hs, hTS, hlen⟩ := hs4 rfl
 clear hs4 hf4
 obtain ⟨nh, hnh⟩ := xE hs.length
 obtain ⟨Ah, ch, hho⟩ := own_shape (by have := hTS.holes; rw [hnh] at this; exact this)
 obtain ⟨n9, hn9⟩ := xE l9.length
 obtain ⟨Ao, co, hoo⟩ := ownB_shape hTS.out
 rw [hn9] at hoo
 have htr := hTS.trace
 have HTS := hid hTS
 have Hho := hid hho
 have Hoo := hid hoo
 have Htr := hid htr
 have Hn9 := hid hn9
 clear hho hoo htr hn9
 go_upto_region 11 with fail
 refine wp_region_held_drew (S := fun wy => TS pl pl (.slice (some ad) 1 cu) t l9 hs (octs fs) wy) (by kernel_rfl) (HTS.out.below (Below.refl _ _).drew) (fun hHeld => ?_)
 refine tk 0 62 (.pointer (some ⟨pl, 0, none⟩)) rfl hHeld ?_
 refine tk 1 63 (.pointer (some ⟨pl, 0, none⟩)) rfl hHeld ?_
 refine tk 2 64 (.pointer (some ⟨pl, 4, none⟩)) rfl hHeld ?_
 refine tq 3 65 (.slice Ao n9 co) rfl (yc pl 4 fun _ h => (Blk.cell h.te 4).trans (by rw [<- Hoo.out]; rfl)) hHeld ?_
 refine tq 4 66 (.string ⟨l9.toArray⟩) rfl (yields_run (by rfl) (fun wy h => by have hcv := h.out.back; rw [Hoo.out] at hcv; go_simp)) hHeld ?_
 refine tk 5 67 (.pointer (some ⟨pl, 0, none⟩)) rfl hHeld ?_
 refine tk 6 68 (.pointer (some ⟨pl, 0, none⟩)) rfl hHeld ?_
 refine tk 7 69 (.pointer (some ⟨pl, 5, none⟩)) rfl hHeld ?_
 refine tq 8 70 (.slice none 0 0) rfl (yc pl 5 fun _ h => (Blk.cell h.te 5).trans (by rw [<- Htr.out]; rfl)) hHeld ?_
 refine tk 9 71 (.pointer (some ⟨pl, 0, none⟩)) rfl hHeld ?_
 refine tk 10 72 (.pointer (some ⟨pl, 0, none⟩)) rfl hHeld ?_
 refine tk 11 73 (.pointer (some ⟨pl, 6, none⟩)) rfl hHeld ?_
 refine tq 12 74 (.slice Ah nh ch) rfl (yc pl 6 fun _ h => (Blk.cell h.te 6).trans (by rw [<- Hho.out]; rfl)) hHeld ?_
 refine tk 13 75 (.pointer (some ⟨pl, 0, none⟩)) rfl hHeld ?_
 refine tk 14 76 (.pointer (some ⟨pl, 0, none⟩)) rfl hHeld ?_
 refine tk 15 77 (.pointer (some ⟨pl, 3, none⟩)) rfl hHeld ?_
 refine tq 16 78 (.int .i64 t.used) rfl (yc pl 3 fun _ h => (Blk.cell h.te 3).trans (by rfl)) hHeld ?_
 refine tk 17 79 (.agg #[.string ⟨l9.toArray⟩, .int .i64 0, .int .i64 0, .slice none 0 0, .slice Ah nh ch, .int .i64 t.used]) rfl hHeld ?_
 refine wpAnyH_ready (rs := [18]) (by kernel_rfl) (by simp) ?_
 have hBR : Blk W4.drew (pb + 1) 40 #[.string ⟨#[]⟩, .int .i64 0, .int .i64 0, .slice none 0 0, .slice none 0 0, .int .i64 0] := HR4.out
 refine storeH 18 (g := pb + 1) (l := [.string ⟨l9.toArray⟩, .int .i64 0, .int .i64 0, .slice none 0 0, .slice Ah nh ch, .int .i64 t.used]) rfl rfl (by rfl) _ _ rfl rfl rfl hBR rfl rfl uReport ?_ AllReadyH.nil
 have hH2 : TS pl pl (.slice (some ad) 1 cu) t l9 hs (octs fs) (W4.drew.setCells (pb + 1) 0 [.string ⟨l9.toArray⟩, .int .i64 0, .int .i64 0, .slice none 0 0, .slice Ah nh ch, .int .i64 t.used]) := hHeld.farC hBR (by decide) _ _
 refine ⟨hH2, ?_⟩
 refine tk 19 9 (.int .i64 0) rfl hH2 ?_
 refine xh ?_
 refine rc1 (pb + 1) (Blk.put (vs := [.string ⟨l9.toArray⟩, .int .i64 0, .int .i64 0, .slice none 0 0, .slice Ah nh ch, .int .i64 t.used]) hBR rfl) ?_
 refine ⟨_, _, _, _, _, _, _, _, rfl, below_put (Hb4.out.trans (Below.refl _ _).drew) (by omega), fun _ _ => ⟨hs, pl, hnh, ?_, ?_, ?_, ?_, hH2.fine⟩, fun h => by rcases h with h | h <;> exact absurd rfl h⟩
 ·have := hH2.holes;rw [hnh, Hho.out] at this;exact this
 ·rw [<- hnh]; exact hlen
 ·show hoSum hs + octs fs = l9.toArray.size;rw [List.size_toArray]; exact hH2.sum
 show l9.toArray.size <= 65536
 rw [List.size_toArray]; exact hH2.len
def flatC (l : List Int) : Bool := l.all flatK
def KdsAt (w : World) (B : Nat) (A : Option Addr) (l : List Int) : Prop := ∀ i (h : i < l.length), ∃ ad, A = some ad /\ ad.block < B /\ ∃ (x nm : ByteArray) (Ap : Option Addr) (np cp : Nat) (Ab : Option Addr) (nb cb : Nat) (Ae : Option Addr) (ne ce : Nat) (v6 v7 v8 : Int), w.cell? (ad.add (i * 9)) = some (.int .i64 l[i]) /\ w.cell? ⟨(ad.add (i * 9)).block, (ad.add (i * 9)).off + 1, none⟩ = some (.string x) /\ w.cell? ⟨(ad.add (i * 9)).block, (ad.add (i * 9)).off + 2, none⟩ = some (.string nm) /\ w.cell? ⟨(ad.add (i * 9)).block, (ad.add (i * 9)).off + 3, none⟩ = some (.slice Ap np cp) /\ w.cell? ⟨(ad.add (i * 9)).block, (ad.add (i * 9)).off + 4, none⟩ = some (.slice Ab nb cb) /\ w.cell? ⟨(ad.add (i * 9)).block, (ad.add (i * 9)).off + 5, none⟩ = some (.slice Ae ne ce) /\ w.cell? ⟨(ad.add (i * 9)).block, (ad.add (i * 9)).off + 6, none⟩ = some (.int .i64 v6) /\ w.cell? ⟨(ad.add (i * 9)).block, (ad.add (i * 9)).off + 7, none⟩ = some (.int .i64 v7) /\ w.cell? ⟨(ad.add (i * 9)).block, (ad.add (i * 9)).off + 8, none⟩ = some (.int .i64 v8)
theorem KdsAt.keep {w w' : World} {B : Nat} {A : Option Addr} {l : List Int} (h : ∀ p : Addr, p.block < B -> w'.cell? p = w.cell? p) (hk : KdsAt w B A l) : KdsAt w' B A l := fun i hi => by
 obtain ⟨ad, e, hb, x, nm, Ap, np, cp, Ab, nb, cb, Ae, ne, ce, v6, v7, v8, c0, c1, c2, c3, c4, c5, c6, c7, c8⟩ := hk i hi
 have hq : ∀ (o : Nat), w'.cell? ⟨(ad.add (i * 9)).block, o, none⟩ = w.cell? ⟨(ad.add (i * 9)).block, o, none⟩ := fun o => h _ (by show (ad.add (i * 9)).block < B; rw [block_of_add]; exact hb)
 exact ⟨ad, e, hb, x, nm, Ap, np, cp, Ab, nb, cb, Ae, ne, ce, v6, v7, v8, (h _ (by rw [block_of_add]; exact hb)).trans c0, (hq _).trans c1, (hq _).trans c2, (hq _).trans c3, (hq _).trans c4, (hq _).trans c5, (hq _).trans c6, (hq _).trans c7, (hq _).trans c8⟩
theorem indexC_any (l : List Int) (hm : l.length <= 1048576) (A : Option Addr) (cap : Nat) (w : World) (B : Nat) (hR : KdsAt w B A l) (hB : B <= w.heap.size) :
  Calls Tryz.prog 27 #[.slice A l.length cap, .func (.func 16) #[] #[]] w fun e w' => (∃ r : Int, e = .returned (.int .i64 r) /\ decide (0 <= r) = !flatC l /\ -1 <= r /\ r <= 1048576) /\ Below w.heap.size w w' := by
 have hlen := hm
 have HR := hid hR
 clear hR
 obtain ⟨n, hnn⟩ := xE l.length
 have Hn := hid hnn
 have hnb : n <= 1048576 := by omega
 rw [hnn]
 clear hnn hlen
 go_enter Tryz.func27, Tryz.ntmps27
 go_wp2
 go_loopw [8] (fun i wr => ∃ k : Nat, k <= n /\ i = .int .i64 k /\ Hid (flatC (l.take k) = true) /\ Below w.heap.size w wr) (fun i _ => n - (intOf i).toNat)
 case atStart => exact ⟨0, Nat.zero_le _, rfl, hid (by rw [List.take_zero]; rfl), Below.refl _ _⟩
 obtain ⟨k, hk, rfl, hfl, hbw⟩ := hrel
 by_cases hlt : k < n
 ·have hkl : k < l.length := by rw [Hn.out]; exact hlt
  obtain ⟨ad, rfl, hadb, x, nm, Ap, np, cp, Ab, nb, cb, Ae, ne, ce, v6, v7, v8, c0, c1, c2, c3, c4, c5, c6, c7, c8⟩ := KdsAt.keep (w' := wr) (fun p hp => (hbw.mono hB).cell hp) HR.out k hkl;have htk : flatC (l.take (k + 1)) = (flatC (l.take k) && flatK l[k]) := by
   unfold flatC;rw [List.take_succ_eq_append_getElem hkl, List.all_append];simp
  have hbad : flatK l[k] = false -> flatC l = false := by
   intro h;cases hc : flatC l with
   | false => rfl
   | true =>
    unfold flatC at hc;have := List.all_eq_true.1 hc l[k] (List.getElem_mem _);rw [h] at this; cases this
  rw [hfl.out, Bool.true_and] at htk;obtain ⟨kd, hp⟩ := xE l[k];rw [hp] at c0 htk hbad;have Hf := hid (fun W => flat1_any kd x nm Ap np cp Ab nb cb Ae ne ce v6 v7 v8 W);obtain ⟨q, hq⟩ := xE (flatK kd);rw [hq] at Hf htk hbad;have HT := hid htk;have HBad := hid hbad;clear hp hkl hq htk hbad hadb;cases q with
  | true =>
   go_wp2_with fail
   refine (Hf.out _).mono ?_;rintro e' w' ⟨rfl, hb'⟩;go_wp2
   go_roundw
   case rel => exact ⟨k + 1, by omega, by go_num, hid HT.out, hbw.trans (hb'.mono hbw.size)⟩
   simp [intOf]; omega
  | false =>
   go_wp2_with fail
   refine (Hf.out _).mono ?_;rintro e' w' ⟨rfl, hb'⟩;go_wp2
   go_ret;exact ⟨⟨_, rfl, by rw [HBad.out (by trivial)]; simp, by omega, by omega⟩, hbw.trans (hb'.mono hbw.size)⟩
 obtain rfl : k = n := by omega
 have hall : Hid (flatC l = true) := hid (by have := hfl.out; rwa [List.take_of_length_le (by rw [Hn.out]; exact Nat.le_refl _)] at this)
 go_wp2
 go_ret
 exact ⟨⟨_, rfl, by rw [hall.out]; simp, by omega, by omega⟩, hbw⟩
theorem containsC_any (l : List Int) (hm : l.length <= 1048576) (A : Option Addr) (cap : Nat) (w : World) (B : Nat) (hR : KdsAt w B A l) (hB : B <= w.heap.size) :
  Calls Tryz.prog 15 #[.slice A l.length cap, .func (.func 16) #[] #[]] w fun e w' => e = .returned (.bool (!flatC l)) /\ Below w.heap.size w w' := by
 have HI := hid (indexC_any l hm A cap w B hR hB)
 clear hR
 generalize l.length = n at HI ⊢
 generalize flatC l = q at HI ⊢
 cases q
 all_goals
  go_enter Tryz.func15, Tryz.ntmps15;go_wp2_with fail
  refine HI.out.mono ?_;rintro e w1 ⟨⟨r, rfl, hr, hr1, hr2⟩, hb⟩;simp only [Bool.not_false, Bool.not_true, decide_eq_true_eq, decide_eq_false_iff_not] at hr;go_wp2
  go_ret;exact ⟨by first | rfl | simp [hr] | (simp; omega), hb⟩
theorem flatC_any (l : List Int) (hm : l.length <= 1048576) (A : Option Addr) (cap : Nat) (w : World) (B : Nat) (hR : KdsAt w B A l) (hB : B <= w.heap.size) :
  Calls Tryz.prog 6 #[.slice A l.length cap] w fun e w' => e = .returned (.bool (flatC l)) /\ Below w.heap.size w w' := by
 have HI := hid (containsC_any l hm A cap w B hR hB)
 clear hR
 generalize l.length = n at HI ⊢
 generalize flatC l = q at HI ⊢
 go_enter Tryz.func6, Tryz.ntmps6
 go_wp2_with fail
 refine HI.out.mono ?_
 rintro e w1 ⟨rfl, hb⟩
 go_wp2
 go_ret
 exact ⟨by first | rfl | simp, hb⟩
theorem kds_of {pw g cap : Nat} {L : List Tn} {w : World} : ∀ {rows : List (List Value)}, w.ownsRow pw 52 9 (.slice (some ⟨g, 0, none⟩) rows.length cap) rows.length rows.flatten -> (∀ q ∈ rows, NRow pw w L q) -> ∃ ks : List Int, ks.length = rows.length /\ KdsAt w (g + 1) (some ⟨g, 0, none⟩) ks /\ ∀ i (h : i < ks.length) (h' : i < rows.length), (rows[i])[0]? = some (.int .i64 ks[i]) := fun {rows} ho hr => by
 have hex : ∀ i (h : i < rows.length), ∃ k : Int, (rows[i])[0]? = some (.int .i64 k) := fun i h => by
  obtain ⟨k, x, nm, p, b, e, a, s, u, s', u', Ap, cp, Ab, nb, cb, Ae, ne, ce, h1, h2, _⟩ := hr _ (List.getElem_mem h);exact ⟨k, by rw [h2]; rfl⟩
 refine ⟨List.ofFn fun i : Fin rows.length => (hex i.val i.isLt).choose, by simp, fun i hi => ?_, fun i hi hi' => ?_⟩
 ·have hi' : i < rows.length := by simpa using hi
  have hkk := (hex i hi').choose_spec;obtain ⟨k, x, nm, p, b, e, a, s, u, s', u', Ap, cp, Ab, nb, cb, Ae, ne, ce, h1, h2, _⟩ := hr _ (List.getElem_mem hi');have hc : ∀ o, o < 9 -> w.cell? ⟨g, i * 9 + o, none⟩ = (rows[i])[o]? := fun o ho9 => by
   have hle : (i + 1) * 9 <= rows.length * 9 := Nat.mul_le_mul_right _ hi';rw [ho.cellAt (i * 9 + o) (by omega)];exact flatten_get ho9 (fun q hq => (hr q hq).len) (List.getElem?_eq_getElem hi')
  refine ⟨⟨g, 0, none⟩, rfl, Nat.lt_succ_self _, x, nm, Ap, p.length, cp, Ab, nb, cb, Ae, ne, ce, a, s', u', ?_⟩;rw [Addr.add_lit, Nat.zero_add, List.getElem_ofFn];refine ⟨(hc 0 (by decide)).trans hkk, (hc 1 (by decide)).trans (by rw [h2]; rfl), (hc 2 (by decide)).trans (by rw [h2]; rfl), (hc 3 (by decide)).trans (by rw [h2]; rfl), (hc 4 (by decide)).trans (by rw [h2]; rfl), (hc 5 (by decide)).trans (by rw [h2]; rfl), (hc 6 (by decide)).trans (by rw [h2]; rfl), (hc 7 (by decide)).trans (by rw [h2]; rfl), (hc 8 (by decide)).trans (by rw [h2]; rfl)⟩
 rw [List.getElem_ofFn]
 exact (hex i hi').choose_spec
theorem kds_any {pw m c : Nat} {A : Option Addr} {L : List Tn} {w : World} {rows : List (List Value)} (ho : w.ownsRow pw 52 9 (.slice A m c) rows.length rows.flatten) (hr : ∀ q ∈ rows, NRow pw w L q) : m = rows.length /\ ∃ ks : List Int, ks.length = m /\ KdsAt w w.heap.size A ks /\ ∀ i (h : i < ks.length) (h' : i < rows.length), (rows[i])[0]? = some (.int .i64 ks[i]) := by
 rcases ho.2 with ⟨e, h0⟩ | ⟨g, cap, cur, e, hb, hg, h4⟩
 ·cases e;exact ⟨h0.symm, [], rfl, fun i h => (by cases h), fun i h => (by cases h)⟩
 cases e
 obtain ⟨ks, h1, h2, h3⟩ := kds_of ho hr
 have hlt := (World.ownsRow.lt ho g rfl).2
 refine ⟨rfl, ks, h1, fun i h => ?_, h3⟩
 obtain ⟨ad, e, hb2, k⟩ := h2 i h
 exact ⟨ad, e, by omega, k⟩
def Fn.nd (f : Fn) : Nd := .mk f.k f.x [] []
theorem nds_sz : ∀ fs : List Fn, (∀ f ∈ fs, f.k = 1 ∨ f.k = 2 ∨ f.k = 7) -> ndsSz (fs.map Fn.nd) = (octs fs, acts fs)
 | [], _ => rfl
 | f :: r, h => by
  have ih := nds_sz r fun q hq => h q (List.mem_cons_of_mem _ hq)
  have hk := h f (by simp);rw [List.map_cons, ndsSz, ih, octs, acts, Fn.nd, Nd.sz, oneP];simp only [ndsSz];rcases hk with e | e | e <;> rw [e] <;> simp
theorem nds_num : ∀ fs : List Fn, ndsNum (fs.map Fn.nd) = fs.length
 | [] => rfl
 | f :: r => by
  rw [List.map_cons, ndsNum, nds_num r, Fn.nd, Nd.num];simp only [ndsNum, List.length_cons];omega
theorem fs_of {pw : Nat} {w : World} {L : List Tn} (hL : tnsOk L) (hm : ∀ t ∈ L, t.may) : ∀ (rows : List (List Value)) (ks : List Int), (∀ q ∈ rows, NRow pw w L q) -> ks.length = rows.length -> (∀ i (h : i < ks.length) (h' : i < rows.length), (rows[i])[0]? = some (.int .i64 ks[i])) -> flatC ks = true ->
  ∃ fs : List Fn, fs.length = rows.length /\ (∀ f ∈ fs, f.ok) /\ ∀ i (h : i < rows.length) (h' : i < fs.length), ∃ (Ap : Option Addr) (cp : Nat) (Ab : Option Addr) (cb : Nat) (Ae : Option Addr) (ce : Nat), rows[i] = [.int .i64 (fs[i]).k, .string (fs[i]).x, .string (fs[i]).nm, .slice Ap (fs[i]).p.length cp, .slice Ab 0 cb, .slice Ae 0 ce, .int .i64 (fs[i]).a, .int .i64 (fs[i]).s, .int .i64 (fs[i]).u] /\ RowsV w (fun b => b < pw) 2 Ap 0 ((fs[i]).p.map Ca.row)
 | [], ks, _, _, _, _ => ⟨[], rfl, fun f h => (by cases h), fun i h => (by cases h)⟩
 | r :: rows, [], _, hl, _, _ => by simp at hl
 | r :: rows, k0 :: ks, hr, hl, hk, hf => by
  unfold flatC at hf;rw [List.all_cons, Bool.and_eq_true] at hf;obtain ⟨fs, h1, h2, h3⟩ := fs_of hL hm rows ks (fun q hq => hr q (List.mem_cons_of_mem _ hq)) (by simpa using hl) (fun i h h' => by have := hk (i + 1) (by simpa using h) (by simpa using h'); simpa using this) hf.2;obtain ⟨k, x, nm, p, b, e, a, s, u, s', u', Ap, cp, Ab, nb, cb, Ae, ne, ce, g1, g2, g3, g4⟩ := hr r (by simp);have hkk : k = k0 := by
   have := hk 0 (by simp) (by simp);simp only [List.getElem_cons_zero] at this;rw [g2] at this
   simpa using this
  subst hkk;have hflat : k = 1 ∨ k = 2 ∨ k = 7 := by
   have := hf.1;unfold flatK at this;simp only [Bool.or_eq_true, decide_eq_true_eq] at this;rcases this with (h | h) | h
   ·exact .inl h
   ·exact .inr (.inl h)
   exact .inr (.inr h)
  have hok := tnsOk_iff.1 hL _ g1;rw [Tn.ok] at hok;have hma := hm _ g1;unfold Tn.may at hma;have hkc : k < 3 ∨ 5 < k := by omega
  obtain ⟨hb0, he0⟩ := hma.2.2 hkc;obtain ⟨hnb, hne⟩ := g4 hkc;subst hb0 he0;refine ⟨⟨k, x, nm, p, a, s', u'⟩ :: fs, by simp [h1], fun f hf => ?_, fun i h h' => ?_⟩
  ·rcases List.mem_cons.1 hf with rfl | hf
   ·exact ⟨hflat, hok.2.1, hok.2.2.1, hok.1⟩
   exact h2 f hf
  cases i with
  | zero =>
   refine ⟨Ap, cp, Ab, cb, Ae, ce, ?_, g3⟩;simp only [List.getElem_cons_zero];rw [g2, hnb, hne];rfl
  | succ i => exact h3 i (by simpa using h) (by simpa using h')
theorem rows_of_list {w : World} {S : Nat -> Prop} {ad : Addr} {sz : Nat} : ∀ (l : List (List Dt)) (i : Nat), (∀ j (h : j < l.length), (S ad.block /\ ad.block < w.heap.size) /\ (l[j]).length = sz /\ RowV w S (ad.add ((i + j) * sz)) 0 l[j]) -> RowsV w S sz (some ad) i l
 | [], _, _ => by unfold RowsV; trivial
 | r :: t, i, h => by
  unfold RowsV;refine ⟨⟨ad, rfl, (h 0 (by simp)).1, (h 0 (by simp)).2.1, (h 0 (by simp)).2.2⟩, rows_of_list t (i + 1) fun j hj => ?_⟩;have := h (j + 1) (by simpa using hj);rw [show i + 1 + j = i + (j + 1) by omega];exact this
theorem fn_row {w : World} {g : Nat} {S : Nat -> Prop} {f : Fn} {Ap : Option Addr} {cp : Nat} {Ab : Option Addr} {cb : Nat} {Ae : Option Addr} {ce : Nat} {i : Nat} (hc : ∀ o, o < 9 -> w.cell? ⟨g, i * 9 + o, none⟩ = ([.int .i64 f.k, .string f.x, .string f.nm, .slice Ap f.p.length cp, .slice Ab 0 cb, .slice Ae 0 ce, .int .i64 f.a, .int .i64 f.s, .int .i64 f.u] : List Value)[o]?) (hp : RowsV w S 2 Ap 0 (f.p.map Ca.row)) : RowV w S ⟨g, i * 9, none⟩ 0 f.tn.row := by
 have hc' : ∀ o, o < 9 -> w.cell? (Addr.add ⟨g, i * 9, none⟩ o) = ([.int .i64 f.k, .string f.x, .string f.nm, .slice Ap f.p.length cp, .slice Ab 0 cb, .slice Ae 0 ce, .int .i64 f.a, .int .i64 f.s, .int .i64 f.u] : List Value)[o]? := fun o ho => by rw [Addr.add_lit]; exact hc o ho
 rw [Fn.tn, Tn.row]
 unfold RowV RowV RowV RowV RowV RowV RowV RowV RowV RowV
 unfold DtV
 refine ⟨⟨_, hc' 0 (by decide), rfl⟩, ⟨_, hc' 1 (by decide), rfl⟩, ⟨_, hc' 2 (by decide), rfl⟩, ⟨_, hc' 3 (by decide), Ap, cp, by rw [List.length_map], hp⟩, ⟨_, hc' 4 (by decide), Ab, cb, rfl, ?_⟩, ⟨_, hc' 5 (by decide), Ae, ce, rfl, ?_⟩, ⟨_, hc' 6 (by decide), rfl⟩, ⟨_, hc' 7 (by decide), rfl⟩, ⟨_, hc' 8 (by decide), rfl⟩, trivial⟩
 ·rw [tnRows]; unfold RowsV; trivial
 rw [tnRows]; unfold RowsV; trivial
theorem fn_nd {w : World} {g B : Nat} {f : Fn} {Ap : Option Addr} {cp : Nat} {Ab : Option Addr} {cb : Nat} {Ae : Option Addr} {ce : Nat} {i : Nat} (hg : g < B) (hx : f.x.size <= 16384) (hc : ∀ o, o < 9 -> w.cell? ⟨g, i * 9 + o, none⟩ = ([.int .i64 f.k, .string f.x, .string f.nm, .slice Ap f.p.length cp, .slice Ab 0 cb, .slice Ae 0 ce, .int .i64 f.a, .int .i64 f.s, .int .i64 f.u] : List Value)[o]?) : NdAt w B ⟨g, i * 9, none⟩ f.nd := by
 rw [Fn.nd]
 unfold NdAt
 refine ⟨⟨hg, by omega⟩, hc 0 (by decide), hc 1 (by decide), f.nm, Ap, f.p.length, cp, Ab, cb, Ae, ce, f.a, f.s, f.u, hc 2 (by decide), hc 3 (by decide), hc 4 (by decide), hc 5 (by decide), hc 6 (by decide), hc 7 (by decide), hc 8 (by decide), ?_, ?_⟩
 ·unfold NdsAt; trivial
 unfold NdsAt; trivial
theorem nds_of_list {w : World} {B : Nat} {ad : Addr} : ∀ (l : List Nd) (i : Nat), (∀ j (h : j < l.length), NdAt w B (ad.add ((i + j) * 9)) l[j]) -> NdsAt w B (some ad) i l
 | [], i, _ => by unfold NdsAt; trivial
 | n :: t, i, h => by
  unfold NdsAt;refine ⟨⟨ad, rfl, h 0 (by simp)⟩, nds_of_list t (i + 1) fun j hj => ?_⟩;have := h (j + 1) (by simpa using hj);rw [show i + 1 + j = i + (j + 1) by omega];exact this
theorem unitRow_len {r : List Value} (h : UnitRow r) : r.length = 18 := by
 obtain ⟨nm, f, t, A, n, c, e, _⟩ := h
 rw [e]
 rfl
theorem unitRow_one {r : List Value} (h : UnitRow r) : r.toArray.all (·.oneCell') = true := by
 obtain ⟨nm, f, t, A, n, c, e, _⟩ := h
 rw [e, St.l, St.l]
 simp [Value.oneCell']
theorem un_flat {g : Nat} {w : World} (hg : g < w.heap.size) (h : UnRow g w) : ∃ (A : Option Addr) (m c : Nat) (ks : List Int), w.cell? ⟨g, 17, none⟩ = some (.slice A m c) /\ ks.length = m /\ m <= 1024 /\ KdsAt w w.heap.size A ks /\
  (flatC ks = true -> ∃ fs : List Fn, U1 ⟨g, 0, none⟩ fs m A c w /\ UnsAt w w.heap.size (some ⟨g, 0, none⟩) [fs.map Fn.nd]) := by
 obtain ⟨r, A, m, c, L, rows, pw, hpw, hr, h17, hra, ho, hm, hrows, hL, hmay⟩ := h
 obtain ⟨hlen, ks, hkl, hk, hkk⟩ := kds_any ho hrows
 have hcell : w.cell? ⟨g, 17, none⟩ = some (.slice A m c) := by simpa using hra 17 _ h17
 refine ⟨A, m, c, ks, hcell, hkl, by omega, hk, fun hf => ?_⟩
 obtain ⟨fs, h1, h2, h3⟩ := fs_of hL hmay rows ks hrows (by omega) hkk hf
 have hsl : ∃ ad, fs ≠ [] -> A = some ad /\ ad.off = 0 /\ ad.spot = none /\ ad.block < w.heap.size /\ (∀ o, o < rows.length * 9 -> w.cell? ⟨ad.block, o, none⟩ = rows.flatten[o]?) := by
  rcases ho.2 with ⟨e, h0⟩ | ⟨gg, cap, cur, e, hb, hgg, h4⟩
  ·cases e;refine ⟨⟨0, 0, none⟩, fun hne => absurd ?_ hne⟩;exact List.length_eq_zero_iff.1 (by omega)
  cases e;have hlt := (World.ownsRow.lt ho gg rfl).2;exact ⟨⟨gg, 0, none⟩, fun _ => ⟨rfl, rfl, rfl, hlt, fun o hoo => ho.cellAt o hoo⟩⟩
 obtain ⟨ad, had⟩ := hsl
 have hrowsV : RowsV w (fun _ => True) 9 A 0 (fnRows fs) /\ NdsAt w w.heap.size A 0 (fs.map Fn.nd) := by
  by_cases hne : fs = []
  ·subst hne;constructor
   ·rw [fnRows, List.map_nil, tnRows]; unfold RowsV; trivial
   rw [List.map_nil]; unfold NdsAt; trivial
  obtain ⟨rfl, ha0, has, hab, hcc⟩ := had hne;obtain ⟨gg, oo, sp⟩ := ad;simp only at ha0 has hab hcc;subst ha0 has;have key : ∀ i (h : i < fs.length), ∃ (Ap : Option Addr) (cp : Nat) (Ab : Option Addr) (cb : Nat) (Ae : Option Addr) (ce : Nat), (∀ o, o < 9 -> w.cell? ⟨gg, i * 9 + o, none⟩ = ([.int .i64 (fs[i]).k, .string (fs[i]).x, .string (fs[i]).nm, .slice Ap (fs[i]).p.length cp, .slice Ab 0 cb, .slice Ae 0 ce, .int .i64 (fs[i]).a, .int .i64 (fs[i]).s, .int .i64 (fs[i]).u] : List Value)[o]?) /\ RowsV w (fun b => b < pw) 2 Ap 0 ((fs[i]).p.map Ca.row) := fun i hi => by
   have hi' : i < rows.length := by omega
   obtain ⟨Ap, cp, Ab, cb, Ae, ce, e, hp⟩ := h3 i hi' hi;refine ⟨Ap, cp, Ab, cb, Ae, ce, fun o ho9 => ?_, hp⟩;have hle : (i + 1) * 9 <= rows.length * 9 := Nat.mul_le_mul_right _ hi';rw [hcc (i * 9 + o) (by omega)];rw [flatten_get ho9 (fun q hq => (hrows q hq).len) (List.getElem?_eq_getElem hi'), e]
  constructor
  ·rw [fnRows, tnRows_map];refine rows_of_list _ 0 fun j hj => ?_
   have hj' : j < fs.length := by simpa using hj
   obtain ⟨Ap, cp, Ab, cb, Ae, ce, hc, hp⟩ := key j hj';refine ⟨⟨trivial, hab⟩, ?_, ?_⟩
   ·rw [List.getElem_map, List.getElem_map, Fn.tn, Tn.row]; rfl
   rw [List.getElem_map, List.getElem_map, Addr.add_lit, Nat.zero_add, Nat.zero_add];exact fn_row hc (RowsV.keep (Nat.le_refl _) (fun b hS hl => ⟨trivial, rfl⟩) _ _ _ 0 hp)
  refine nds_of_list _ 0 fun j hj => ?_
  have hj' : j < fs.length := by simpa using hj
  obtain ⟨Ap, cp, Ab, cb, Ae, ce, hc, hp⟩ := key j hj';rw [List.getElem_map, Addr.add_lit, Nat.zero_add, Nat.zero_add];exact fn_nd hab (h2 _ (List.getElem_mem _)).2.2.2 hc
 refine ⟨fs, ⟨hg, hcell, hrowsV.1, by omega, h2, by omega⟩, fun k hk1 => ?_⟩
 have hk0 : k = 0 := by simpa using hk1
 subst hk0
 refine ⟨⟨g, 0, none⟩, rfl, ?_⟩
 rw [Nat.zero_mul, addr_zero]
 refine ⟨hg, rfl, r, unitRow_len hr, unitRow_one hr, hra, A, c, ?_, ?_⟩
 ·rw [h17, List.getElem_cons_zero, List.length_map, h1, <- hlen]
 exact hrowsV.2
end Go.Proofs.YtkcnmjdomipbjaaGreat
