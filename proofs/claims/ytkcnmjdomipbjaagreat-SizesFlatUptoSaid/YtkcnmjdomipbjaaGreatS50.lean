import Derived.Test.YtkcnmjdomipbjaaGreatS49
set_option linter.unusedVariables false
set_option maxHeartbeats 100000000
set_option maxRecDepth 100000
namespace Go.Proofs.YtkcnmjdomipbjaaGreat
open Go.RowKit
theorem uEnv : (Tryz.prog.info? 99).map (·.size) = some 11 := by kernel_rfl
theorem info_Value : infoOk (Tryz.prog.info? 25) 5 = true := by kernel_rfl
structure PiS (B pt : Nat) (w : World) (E : List Value) (wx : World) : Prop where
 hb : Below w.heap.size w wx
 e : Blk wx pt 99 E.toArray
 r : Blk wx (pt + 1) 25 #[.int .i64 0, .int .i64 0, .string ⟨#[]⟩, .slice none 0 0, .slice none 0 0]
 v : ∃ u0 u1 u2 u3 u4, Blk wx (pt + 2) 25 #[u0, u1, u2, u3, u4] /\ VdV 1048583 B (.agg #[u0, u1, u2, u3, u4]) wx
def OwnV (B base : Nat) (va : Value) (la : List Vd) (w : World) : Prop := OwnD w base (fun b => b < B) 25 5 va (vdRows la) /\ ∀ v ∈ la, v.wt <= 1048583
section
variable {B pt : Nat} {w wx w' : World} {E : List Value}
theorem PiS.low (h : PiS B pt w E wx) (hp : w.heap.size = pt) (hB : B <= pt) (hb : Below (pt + 3) wx w') : PiS B pt w E w' := by
 obtain ⟨u0, u1, u2, u3, u4, h1, h2⟩ := h.v
 exact ⟨h.hb.trans (hb.mono (by omega)), h.e.below hb (by omega), h.r.below hb (by omega), ⟨u0, u1, u2, u3, u4, h1.below hb (by omega), h2.keep (hb.mono (by omega))⟩⟩
theorem PiS.below (h : PiS B pt w E wx) (hb : Below wx.heap.size wx w') : PiS B pt w E w' := by
 obtain ⟨u0, u1, u2, u3, u4, h1, h2⟩ := h.v
 exact ⟨h.hb.trans (hb.mono h.hb.size), h.e.below hb h.e.lt, h.r.below hb h.r.lt, ⟨u0, u1, u2, u3, u4, h1.below hb h1.lt, h2.below hb⟩⟩
theorem PiS.putV (h : PiS B pt w E wx) (hp : w.heap.size = pt) (hB : B <= pt) {v0 v1 v2 v3 v4 : Value} (hv : VdV 1048583 B (.agg #[v0, v1, v2, v3, v4]) wx) : PiS B pt w E (wx.setCells (pt + 2) 0 [v0, v1, v2, v3, v4]) := by
 obtain ⟨u0, u1, u2, u3, u4, h1, h2⟩ := h.v
 exact ⟨h.hb.trans (below_setCells _ (by omega)), h.e.farC (by omega) _ _, h.r.farC (by omega) _ _, ⟨v0, v1, v2, v3, v4, h1.put (vs := [v0, v1, v2, v3, v4]) rfl, hv.keep (below_setCells _ (by omega))⟩⟩
theorem PiS.far (h : PiS B pt w E wx) (hp : w.heap.size = pt) (hB : B <= pt) {gt : Nat} (hg : pt + 2 < gt) (vs : List Value) : PiS B pt w E (wx.setCells gt 0 vs) := h.low hp hB (below_setCells vs (by omega))
end
theorem cellsV_split {w : World} {S : Nat -> Prop} : ∀ (a b : List Dt) (xs : List Value), CellsV w S xs (a ++ b) -> CellsV w S (xs.take a.length) a /\ CellsV w S (xs.drop a.length) b
 | [], b, xs, h => ⟨rfl, h⟩
 | d :: a, b, xs, ⟨v, ys, e, hd, h⟩ => by
  subst e;obtain ⟨h1, h2⟩ := cellsV_split a b ys h;exact ⟨⟨v, _, rfl, hd, h1⟩, h2⟩
theorem cellsV_get {w : World} {S : Nat -> Prop} {sz : Nat} : ∀ (l : List (List Dt)) (xs : List Value) (i : Nat) (hi : i < l.length), (∀ r ∈ l, r.length = sz) -> CellsV w S xs l.flatten -> CellsV w S ((xs.drop (i * sz)).take sz) l[i]
 | r :: l, xs, 0, hi, hl, h => by
  rw [List.flatten_cons] at h;have h1 := (cellsV_split r l.flatten xs h).1;rw [hl r (by simp)] at h1;rw [Nat.zero_mul, List.drop_zero]; exact h1
 | r :: l, xs, i + 1, hi, hl, h => by
  rw [List.flatten_cons] at h;have h2 := (cellsV_split r l.flatten xs h).2;rw [hl r (by simp)] at h2;have := cellsV_get l _ i (by simpa using hi) (fun q hq => hl q (List.mem_cons_of_mem _ hq)) h2;rw [List.drop_drop] at this;rw [show (i + 1) * sz = sz + i * sz by rw [Nat.add_mul]; omega];exact this
theorem vd_of_cells {w : World} {B N : Nat} {S : Nat -> Prop} {us : List Value} {v : Vd} (h : CellsV w S us v.row) (hS : ∀ b, S b -> b < B) (hw : v.wt <= N) : ∃ v0 v1 v2 v3 v4, us = [v0, v1, v2, v3, v4] /\ VdV N B (.agg #[v0, v1, v2, v3, v4]) w := by
 obtain ⟨k, m, x, l, ks⟩ := v
 rw [Vd.row] at h
 obtain ⟨v0, r0, rfl, e0, v1, r1, rfl, e1, v2, r2, rfl, e2, v3, r3, rfl, e3, v4, r4, rfl, e4, h5⟩ := h
 have h5' : r4 = [] := h5
 subst h5'
 obtain ⟨Al, cl, rfl, hl⟩ := e3.slice (n := l.length) (by rw [vdRows_map]; simp)
 obtain ⟨Ak, ck, rfl, hk⟩ := e4.slice (n := ks.length) (by simp [strRows])
 rw [e0.int_is, e1.int_is, e2.str_is]
 exact ⟨_, _, _, _, _, rfl, k, m, x, l, ks, l.length, ks.length, Al, Ak, cl, ck, rfl, rfl, rfl, hw, hl.to fun b hb _ => hS b hb, hk.to fun b hb _ => hS b hb⟩
theorem cells_of_vd {w : World} {B N : Nat} {v0 v1 v2 v3 v4 : Value} (h : VdV N B (.agg #[v0, v1, v2, v3, v4]) w) : ∃ v : Vd, v.wt <= N /\ CellsV w (fun b => b < B) [v0, v1, v2, v3, v4] v.row := by
 obtain ⟨k, m, x, l, ks, nl, nk, Al, Ak, cl, ck, rfl, rfl, rfl, rfl, rfl, hnl, hnk, hN, hl, hk⟩ := h.parts
 refine ⟨.mk k m x l ks, hN, ?_⟩
 rw [Vd.row]
 exact ⟨_, _, rfl, DtV.int, _, _, rfl, DtV.int, _, _, rfl, DtV.str, _, _, rfl, DtV.rows (by rw [vdRows_map]; simp [hnl]) hl, _, _, rfl, DtV.rows (by simp [strRows, hnk]) hk, rfl⟩
theorem vdRows_snoc (l : List Vd) (v : Vd) : vdRows (l ++ [v]) = vdRows l ++ [v.row] := by simp [vdRows_map]
theorem vdRows_len (l : List Vd) : (vdRows l).length = l.length := by rw [vdRows_map, List.length_map]
theorem OwnV.below {B base : Nat} {va : Value} {la : List Vd} {w w' : World} (h : OwnV B base va la w) (hb : Below w.heap.size w w') : OwnV B base va la w' := ⟨h.1.keep hb, h.2⟩
theorem OwnV.low {B base b2 : Nat} {va : Value} {la : List Vd} {w w' : World} (h : OwnV B base va la w) (hb : Below w.heap.size w w') : OwnV B base va la w' := h.below hb
theorem OwnV.nil {B base : Nat} {w : World} : OwnV B base (.slice none 0 0) [] w := ⟨by unfold vdRows; exact OwnD.nil, fun v h => by cases h⟩
theorem OwnV.shape {B base n : Nat} {va : Value} {la : List Vd} {w : World} (h : OwnV B base va la w) (hn : la.length = n) : ∃ A c, va = .slice A n c := h.1.shape (by rw [vdRows_len]; exact hn)
theorem OwnV.far {B base g : Nat} {va : Value} {la : List Vd} {w : World} (h : OwnV B base va la w) (hg : va.ownBlock ≠ some g) (hB : B <= g) (o : Nat) (vs : List Value) : OwnV B base va la (w.setCells g o vs) :=
 ⟨h.1.stay (Nat.le_of_eq (setCells_size vs o w).symm) (fun b _ hb _ => setCells_far vs o w fun e => hg (e ▸ hb)) (fun b hb _ _ => setCells_far vs o w (by omega)), h.2⟩
theorem OwnV.args {B base n : Nat} {A : Option Addr} {c : Nat} {la : List Vd} {w : World} (h : OwnV B base (.slice A n c) la w) (hn : la.length = n) : ArgsV B A n la w := by
 obtain ⟨⟨xs, h1, h2, h3⟩, hw⟩ := h
 rw [vdRows_len, hn] at h1
 rcases h1.2 with ⟨e, h0⟩ | ⟨g, cap, cur, e, hb, hg, h4⟩
 ·cases e;obtain rfl := List.eq_nil_of_length_eq_zero hn;exact ⟨rfl, hw, by unfold vdRows RowsV; trivial, fun i hi => by omega⟩
 cases e
 have hlt := (World.ownsRow.lt h1 g rfl).2
 refine ⟨hn, hw, RowsV.of_flat ⟨trivial, hlt⟩ h3 (h2.to fun _ _ _ => trivial) fun k u hu => ?_, fun i hi => ?_⟩
 ·rw [Nat.zero_mul, Nat.zero_add];exact World.ownsRow.cells h1 (g := g) rfl k u hu
 have hil : i < (vdRows la).length := by rw [vdRows_len]; omega
 have hc := cellsV_get (vdRows la) xs i hil h3 h2
 have hil2 : i < la.length := by omega
 have e : (vdRows la)[i] = (la[i]).row := by simp only [vdRows_map, List.getElem_map]
 rw [e] at hc
 obtain ⟨v0, v1, v2, v3, v4, e5, hv⟩ := vd_of_cells hc (fun b hb => hb.1) (hw _ (List.getElem_mem hil2))
 have hx : ∀ k u, [v0, v1, v2, v3, v4][k]? = some u -> k < 5 -> w.cell? ⟨g, i * 5 + k, none⟩ = some u := fun k u hk h5 => by
  have hle : (i + 1) * 5 <= n * 5 := Nat.mul_le_mul_right _ hi;rw [h1.cellAt (i * 5 + k) (by omega)];rw [<- e5, List.getElem?_take_of_lt h5, List.getElem?_drop] at hk;exact hk
 refine ⟨⟨g, 0, none⟩, v0, v1, v2, v3, v4, rfl, hlt, ?_, hv⟩
 rw [Addr.add_lit, Nat.zero_add]
 exact ⟨hx 0 v0 rfl (by decide), hx 1 v1 rfl (by decide), hx 2 v2 rfl (by decide), hx 3 v3 rfl (by decide), hx 4 v4 rfl (by decide)⟩
theorem wpl_pushV {ops : Array Oper} {rest : List Oper} {o : Oper} {a : Act} {Q : Exit -> Act -> World -> Prop} {W : World} {B base : Nat} {va : Value} {la : List Vd} {v0 v1 v2 v3 v4 : Value} (hgd : o.guard = none) (s x : Operand)
  (ho : o.op = .call { callee := .builtin .append, args := #[s, x], argTypes := #[22, 22] }) (H : OwnV B base va la W) (hs : a.eval s = va) (hv : VdV 1048583 B (.agg #[v0, v1, v2, v3, v4]) W) (hx : a.eval x = .slice (some ⟨W.heap.size, 0, none⟩) 1 1)
  (hn : la.length <= 1099511627776 / 16) (hbase : base <= W.heap.size) (hB : B <= base)
  (h : ∀ v' w' vd, OwnV B base v' (la ++ [vd]) w' -> Below base W w' -> wpList Tryz.prog ops Q rest (a.put o.dst v') w') : wpList Tryz.prog ops Q (o :: rest) a (W.alloc (.cells #[v0, v1, v2, v3, v4] 25)) := by
 obtain ⟨vd, hw, hc⟩ := cells_of_vd hv
 obtain ⟨i0, z, hi, hz, hsize, hby2, hzs, hsz⟩ := info_of info_Value
 have hlt := H.1.lt
 refine wpl_pushD hgd s x ho Tryz.underlying22 hi hz hsize rfl hzs hsz hby2 H.1 hs (us := [v0, v1, v2, v3, v4]) (r := vd.row) (hc.to fun b hb _ => ⟨hb, fun e => by have := (hlt b e).1; omega⟩) (by obtain ⟨k, m, x, l, ks⟩ := vd; rfl) hx (by rw [vdRows_len]; exact hn) hbase ?_
 intro v' w' h1 h2 _ _
 refine h v' w' vd ⟨by rw [vdRows_snoc]; exact h1, fun q hq => ?_⟩ h2
 rcases List.mem_append.1 hq with k | k
 ·exact H.2 q k
 rw [List.mem_singleton.1 k]; exact hw
theorem pipe27_any (B : Nat) (ve : Value) (cs : List Ca) (n : Nat) (hn : cs.length = n) (hnz : n <= 1048576) (A : Option Addr) (c : Nat) (w : World) (hE : EnvV B ve w) (hB : B <= w.heap.size) (hc : ∀ c ∈ cs, CaOk c) (hr : RowsV w (fun _ => True) 2 A 0 (cs.map Ca.row)) : Calls Tryz.prog 54 #[ve, .slice A n c] w (PVE 1048583 B w) := by
 have HE := hid (fun W (hb : Below w.heap.size w W) => hE.below hb)
 obtain ⟨r0, r1, r2, r3, r4, d0, d1, d2, d3, d4, Av, nv, cv, rfl, hvr, hvd, hvs, hnv⟩ := hE
 have Hr := hid hr
 have HB := hid hB
 have Hn := hid hn
 have Hc := hid hc
 clear hvr hvd hvs hr hB hn hc hnv
 obtain ⟨W, hW⟩ := xE ((w.alloc (.cells #[r0, r1, r2, r3, r4, d0, d1, d2, d3, d4, .slice Av nv cv] 99)).alloc (.cells #[.int .i64 0, .int .i64 0, .string ⟨#[]⟩, .slice none 0 0, .slice none 0 0] 25))
 have hbw : Below w.heap.size w W := by rw [<- hW]; go_grown
 have HX : Hid (Blk W w.heap.size 99 #[r0, r1, r2, r3, r4, d0, d1, d2, d3, d4, .slice Av nv cv]) := hid (by rw [<- hW]; exact (Blk.new w _ _).alloc _)
 have HR : Hid (Blk W (w.heap.size + 1) 25 #[.int .i64 0, .int .i64 0, .string ⟨#[]⟩, .slice none 0 0, .slice none 0 0]) := hid (by rw [<- hW]; exact Blk.new_at _ _ (by simp) _ _)
 have hWz : W.heap.size = w.heap.size + 2 := by rw [<- hW]; simp
 have Hb := hid hbw
 obtain ⟨pt, hpt⟩ := xE w.heap.size
 rw [hpt] at HX HR hWz
 clear hbw
 go_enter Tryz.func54, Tryz.ntmps54
 have hsz := hpt
 by_cases hn0 : n = 0
 ·subst hn0;go_upto_region 2 with fail
  refine wp_region_lit ?_;refine mv (.agg #[.int .i64 0, .int .i64 0, .string ⟨#[]⟩, .slice none 0 0, .slice none 0 0]) ?_;refine st [.int .i64 0, .int .i64 0, .string ⟨#[]⟩, .slice none 0 0, .slice none 0 0] HR.out ?_;refine mv (.int .i64 9) ?_;refine xn ?_;refine rc1 (pt + 1) (Blk.put (vs := [.int .i64 0, .int .i64 0, .string ⟨#[]⟩, .slice none 0 0, .slice none 0 0]) HR.out rfl) ?_;exact pve_put (VdV.zero (by omega)) Hb.out (by omega) HB.out _
 have hnp : 0 < n := by omega
 have hnb : ((n : Int) == 0) = false := beq_eq_false_iff_ne.2 (by omega)
 go_upto_region 3 with fail
 clear hW
 refine wp_region_lit ?_
 refine wpl_val (some 6) (v := .pointer (some ⟨W.heap.size, 0, none⟩)) (w' := W.alloc (.cells #[.int .i64 0, .int .i64 0, .string ⟨#[]⟩, .slice none 0 0, .slice none 0 0] 25)) rfl rfl (by go_simp) ?_
 simp only [Act.put, aQ, aZ, aC]
 refine wpList_nil ?_
 (try simp only [Exit.then])
 have hb2 : Below W.heap.size W (W.alloc (.cells #[.int .i64 0, .int .i64 0, .string ⟨#[]⟩, .slice none 0 0, .slice none 0 0] 25)) := alloc_below _ _
 have HV6 : Hid (Blk (W.alloc (.cells #[.int .i64 0, .int .i64 0, .string ⟨#[]⟩, .slice none 0 0, .slice none 0 0] 25)) W.heap.size 25 #[.int .i64 0, .int .i64 0, .string ⟨#[]⟩, .slice none 0 0, .slice none 0 0]) := hid (Blk.new _ _ _)
 obtain ⟨W2, hW2⟩ := xE (W.alloc (.cells #[.int .i64 0, .int .i64 0, .string ⟨#[]⟩, .slice none 0 0, .slice none 0 0] 25))
 rw [hW2] at hb2 HV6 ⊢
 rw [hWz] at HV6 ⊢
 have HS2 : Hid (PiS B pt w [r0, r1, r2, r3, r4, d0, d1, d2, d3, d4, .slice Av nv cv] W2) := hid ⟨Hb.out.trans (hb2.mono Hb.out.size), HX.out.below hb2 HX.out.lt, HR.out.below hb2 HR.out.lt, ⟨_, _, _, _, _, HV6.out, VdV.zero (by omega)⟩⟩
 clear hW2 hb2 HV6 HX HR Hb hnb
 go_wp2_with fail
 go_loopw [7] (fun i wr => ∃ j : Nat, i = .int .i64 (j : Int) /\ j <= n /\ PiS B pt w [r0, r1, r2, r3, r4, d0, d1, d2, d3, d4, .slice Av nv cv] wr) (fun i _ => n - (intOf i).toNat)
 case atStart => exact ⟨0, rfl, Nat.zero_le _, HS2.out⟩
 obtain ⟨j, rfl, hj, hS⟩ := hrel
 obtain ⟨W3, rfl⟩ := xS wr
 have HS3 := hid hS
 clear hS HS2
 have hj0 : (0 : Int) <= (j : Int) := by omega
 by_cases hlt : j < n
 ·have hli : (j : Int) < (n : Int) := by omega
  have hjl : j < cs.length := by have := Hn.out; omega
  obtain ⟨ad, rfl, _, hadl, hrow⟩ := RowsV.get Hr.out hjl;have hco := Hc.out _ (List.getElem_mem hjl);obtain ⟨cc, hcc⟩ := xE cs[j];rw [hcc] at hrow hco;obtain ⟨cnm, cargs⟩ := cc;obtain ⟨na, hna⟩ := xE cargs.length;obtain ⟨c0, Aa, ca, c1, rargs⟩ := Ca.at_ hrow hna;obtain ⟨hcl, hca⟩ := hco;simp only at hcl hca c0 c1 rargs;have hnaz : na <= 1048576 := by omega
  have Hc0 : Hid (∀ W, Below w.heap.size w W -> W.cell? (ad.add (j * 2)) = some (.string cnm) /\ W.cell? ⟨(ad.add (j * 2)).block, (ad.add (j * 2)).off + 1, none⟩ = some (.slice Aa na ca)) := hid (fun W hb => ⟨(hb.cell (p := ad.add (j * 2)) (by rw [block_of_add]; exact hadl)).trans c0, (hb.cell (p := ⟨(ad.add (j * 2)).block, (ad.add (j * 2)).off + 1, none⟩) (by show (ad.add (j * 2)).block < _; rw [block_of_add]; exact hadl)).trans c1⟩);have Hra := hid rargs;have Hca := hid hca;have Hna := hid hna;clear hrow hcc c0 c1 rargs hca hcl hna;go_upto_region 7 with fail
  go_wp2_with fail
  go_loopw [8, 9] (fun av i wr => ∃ (k : Nat) (la : List Vd), i = .int .i64 (k : Int) /\ k <= na /\ la.length = k /\ PiS B pt w [r0, r1, r2, r3, r4, d0, d1, d2, d3, d4, .slice Av nv cv] wr /\ OwnV B (pt + 3) av la wr) (fun _ i _ => na - (intOf i).toNat)
  case atStart => exact ⟨0, [], rfl, Nat.zero_le _, rfl, HS3.out, OwnV.nil⟩
  obtain ⟨k, la, rfl, hk, hla, hS, hO⟩ := hrel;obtain ⟨W4, rfl⟩ := xS wr;obtain ⟨Ao, co, hav⟩ := hO.shape hla;obtain rfl := hav;have HS4 := hid hS;have HO4 := hid hO;have Hla := hid hla;clear hS hO hla HS3;have hk0 : (0 : Int) <= (k : Int) := by omega
  obtain ⟨c0, c1⟩ := Hc0.out W4 HS4.out.hb;by_cases hkt : k < na
  ·have hki : (k : Int) < (na : Int) := by omega
   have hkl : k < cargs.length := by have := Hna.out; omega
   obtain ⟨aa, rfl, _, haal, hrow⟩ := RowsV.get Hra.out hkl;have hao := Hca.out _ (List.getElem_mem hkl);obtain ⟨ar, har⟩ := xE cargs[k];rw [har] at hrow hao;obtain ⟨ak, anm, path, an, ax⟩ := ar;obtain ⟨np, hnp⟩ := xE path.length;obtain ⟨p0, p1, ⟨Ap, cp, p2, rp⟩, p3, p4⟩ := Ar.at_ hrow hnp;simp only at p0 p1 p2 p3 p4 rp;have Hp : Hid (VAt (aa.add (k * 5)) (.int .i64 ak) (.string anm) (.slice Ap np cp) (.int .i64 an) (.string ax) w) := hid ⟨p0, p1, p2, p3, p4⟩;have HAg := hid (fun W' (hb : Below w.heap.size w W') => arg27_any B (.agg #[r0, r1, r2, r3, r4, d0, d1, d2, d3, d4, .slice Av nv cv]) ak anm path an ax np hnp Ap cp W' (HE.out W' hb) (Nat.le_trans HB.out hb.size) hao (rp.below hb));clear hrow har p0 p1 p2 p3 p4 rp hnp hao;go_upto_region 11 with fail
   clear c0 c1;go_cut [10, 11] from 23 to 53 (fun vx vf (wx : World) => ∃ (gt : Nat) (er : Int) (z0 z1 z2 z3 z4 : Value), vx = .pointer (some ⟨gt, 0, none⟩) /\ vf = .int .i64 er /\ pt + 2 < gt /\ PiS B pt w [r0, r1, r2, r3, r4, d0, d1, d2, d3, d4, .slice Av nv cv] wx /\ OwnV B (pt + 3) (.slice Ao k co) la wx /\ Blk wx gt 25 #[z0, z1, z2, z3, z4] /\ VdV 1048583 B (.agg #[z0, z1, z2, z3, z4]) wx)
   case first => as_aux_lemma =>
    refine wp_region_held_drew (S := fun wy => PiS B pt w [r0, r1, r2, r3, r4, d0, d1, d2, d3, d4, .slice Av nv cv] wy /\ OwnV B (pt + 3) (.slice Ao k co) la wy) (by kernel_rfl) ⟨HS4.out.below (Below.refl _ _).drew, HO4.out.below (Below.refl _ _).drew⟩ (fun hHeld => ?_);obtain ⟨W5, hW5⟩ := xE W4.drew;rw [hW5] at hHeld ⊢;clear hW5;refine tq 0 34 (.agg #[r0, r1, r2, r3, r4, d0, d1, d2, d3, d4, .slice Av nv cv]) rfl (yl [r0, r1, r2, r3, r4, d0, d1, d2, d3, d4, .slice Av nv cv] (fun w h => h.1.e)) hHeld ?_;refine tk 1 35 (.slice (some ad) n c) rfl hHeld ?_;refine tk 2 36 (.int .i64 (j : Int)) rfl hHeld ?_;refine tk 3 37 (.pointer (some (ad.add (j * 2)))) rfl hHeld ?_;refine tk 4 38 (.pointer (some ⟨(ad.add (j * 2)).block, (ad.add (j * 2)).off + 1, none⟩)) rfl hHeld ?_;refine tq 5 39 (.slice (some aa) na ca) rfl (yields_run (by rfl) (fun wy h => by obtain ⟨_, hc⟩ := Hc0.out wy h.1.hb; go_simp)) hHeld ?_;refine tk 6 40 (.int .i64 (k : Int)) rfl hHeld ?_;refine tk 7 41 (.pointer (some (aa.add (k * 5)))) rfl hHeld ?_;refine tq 8 42 (.agg #[.int .i64 ak, .string anm, .slice Ap np cp, .int .i64 an, .string ax]) rfl (yields_run (by rfl) (fun wy h => by obtain ⟨v0, v1, v2, v3, v4⟩ := Hp.out.below h.1.hb (by rw [block_of_add]; exact haal); go_simp)) hHeld ?_;refine wpAnyH_ready (rs := [9, 13]) (by kernel_rfl) (by simp) ?_;refine callH 9 (some 43) rfl rfl (by rfl) (args := #[.agg #[r0, r1, r2, r3, r4, d0, d1, d2, d3, d4, .slice Av nv cv], .agg #[.int .i64 ak, .string anm, .slice Ap np cp, .int .i64 an, .string ax]]) (by go_simp) (HAg.out _ hHeld.1.hb) (fun e w4 hR => ?_) ?_
    ·obtain ⟨val, er, rfl, hv4, hb4⟩ := hR;obtain ⟨kr, mr, xr, lr, ksr, nlr, nkr, Alr, Akr, clr, ckr, rfl, hnlr, hnkr, hNr, hlr, hkr⟩ := hv4;have hH4 := And.intro (hHeld.1.below hb4) (hHeld.2.below hb4);refine ⟨_, rfl, hH4, ?_⟩;simp only [Act.put, aQ, aZ, aC];refine tk 10 33 (.tuple #[.agg #[.int .i64 kr, .int .i64 mr, .string xr, .slice Alr nlr clr, .slice Akr nkr ckr], .int .i64 er]) rfl hH4 ?_;refine tk 11 44 (.agg #[.int .i64 kr, .int .i64 mr, .string xr, .slice Alr nlr clr, .slice Akr nkr ckr]) rfl hH4 ?_;refine tk 12 45 (.int .i64 er) rfl hH4 ?_;refine wpAnyH_ready (rs := [13]) (by kernel_rfl) (by simp) ?_;refine valH 13 (some 10) rfl rfl (by rfl) (.pointer (some ⟨w4.heap.size, 0, none⟩)) (w4.alloc (.cells #[.int .i64 0, .int .i64 0, .string ⟨#[]⟩, .slice none 0 0, .slice none 0 0] 25)) (by go_simp) ?_ AllReadyH.nil;have hal : Below w4.heap.size w4 (w4.alloc (.cells #[.int .i64 0, .int .i64 0, .string ⟨#[]⟩, .slice none 0 0, .slice none 0 0] 25)) := alloc_below _ _;have HBt : Hid (Blk (w4.alloc (.cells #[.int .i64 0, .int .i64 0, .string ⟨#[]⟩, .slice none 0 0, .slice none 0 0] 25)) w4.heap.size 25 #[.int .i64 0, .int .i64 0, .string ⟨#[]⟩, .slice none 0 0, .slice none 0 0]) := hid (Blk.new _ _ _);have hgt : pt + 2 < w4.heap.size := hH4.1.v.choose_spec.choose_spec.choose_spec.choose_spec.choose_spec.1.lt;have hgo : (Value.slice Ao k co).ownBlock ≠ some w4.heap.size := fun e => by have := (hH4.2.1.lt _ e).2; omega
     have hH2 := And.intro (hH4.1.below hal) (hH4.2.below hal);have hvx : VdV 1048583 B (.agg #[.int .i64 kr, .int .i64 mr, .string xr, .slice Alr nlr clr, .slice Akr nkr ckr]) (w4.alloc (.cells #[.int .i64 0, .int .i64 0, .string ⟨#[]⟩, .slice none 0 0, .slice none 0 0] 25)) := VdV.below ⟨kr, mr, xr, lr, ksr, nlr, nkr, Alr, Akr, clr, ckr, rfl, hnlr, hnkr, hNr, hlr, hkr⟩ hal;refine ⟨hH2, ?_⟩;simp only [Act.put, aQ, aZ, aC];obtain ⟨w4x, hWx⟩ := xE (w4.alloc (.cells #[.int .i64 0, .int .i64 0, .string ⟨#[]⟩, .slice none 0 0, .slice none 0 0] 25));obtain ⟨gt, hgtx⟩ := xE w4.heap.size;rw [hWx] at HBt hH2 hvx ⊢;rw [hgtx] at HBt hgt hgo ⊢;clear hWx hgtx hal;refine wpAnyH_ready (rs := [14]) (by kernel_rfl) (by simp) ?_;refine storeH 14 (g := gt) (l := [.int .i64 kr, .int .i64 mr, .string xr, .slice Alr nlr clr, .slice Akr nkr ckr]) rfl rfl (by rfl) _ _ rfl rfl rfl HBt.out rfl rfl uValue ?_ AllReadyH.nil;have hS9 := hH2.1.far hsz (by have := HB.out; omega) hgt [.int .i64 kr, .int .i64 mr, .string xr, .slice Alr nlr clr, .slice Akr nkr ckr];have hO9 : OwnV B (pt + 3) (.slice Ao k co) la (w4x.setCells gt 0 [.int .i64 kr, .int .i64 mr, .string xr, .slice Alr nlr clr, .slice Akr nkr ckr]) := hH2.2.far hgo (by have := HB.out; omega) 0 _;have hv9 : VdV 1048583 B (.agg #[.int .i64 kr, .int .i64 mr, .string xr, .slice Alr nlr clr, .slice Akr nkr ckr]) (w4x.setCells gt 0 [.int .i64 kr, .int .i64 mr, .string xr, .slice Alr nlr clr, .slice Akr nkr ckr]) := VdV.keep hvx (below_setCells _ (by have := HB.out; omega));have hb9 := HBt.out.put (vs := [.int .i64 kr, .int .i64 mr, .string xr, .slice Alr nlr clr, .slice Akr nkr ckr]) rfl;refine ⟨⟨hS9, hO9⟩, ?_⟩;refine tk 15 11 (.int .i64 er) rfl (And.intro hS9 hO9) ?_;refine wpAnyH_done (by kernel_rfl) ?_ _;(try simp only [Exit.then]);go_wp2_with fail
     go_meet;exact ⟨gt, er, _, _, _, _, _, rfl, rfl, hgt, hS9, hO9, hb9, hv9⟩
    refine valH 13 (some 10) rfl rfl (by rfl) (.pointer (some ⟨W5.heap.size, 0, none⟩)) (W5.alloc (.cells #[.int .i64 0, .int .i64 0, .string ⟨#[]⟩, .slice none 0 0, .slice none 0 0] 25)) (by go_simp) ?_ AllReadyH.nil;have hal : Below W5.heap.size W5 (W5.alloc (.cells #[.int .i64 0, .int .i64 0, .string ⟨#[]⟩, .slice none 0 0, .slice none 0 0] 25)) := alloc_below _ _;have HBt : Hid (Blk (W5.alloc (.cells #[.int .i64 0, .int .i64 0, .string ⟨#[]⟩, .slice none 0 0, .slice none 0 0] 25)) W5.heap.size 25 #[.int .i64 0, .int .i64 0, .string ⟨#[]⟩, .slice none 0 0, .slice none 0 0]) := hid (Blk.new _ _ _);have hgt : pt + 2 < W5.heap.size := hHeld.1.v.choose_spec.choose_spec.choose_spec.choose_spec.choose_spec.1.lt;have hgo : (Value.slice Ao k co).ownBlock ≠ some W5.heap.size := fun e => by have := (hHeld.2.1.lt _ e).2; omega
    have hH2 := And.intro (hHeld.1.below hal) (hHeld.2.below hal);refine ⟨hH2, ?_⟩;simp only [Act.put, aQ, aZ, aC];obtain ⟨W5x, hWx⟩ := xE (W5.alloc (.cells #[.int .i64 0, .int .i64 0, .string ⟨#[]⟩, .slice none 0 0, .slice none 0 0] 25));obtain ⟨gt, hgtx⟩ := xE W5.heap.size;rw [hWx] at HBt hH2 ⊢;rw [hgtx] at HBt hgt hgo ⊢;clear hWx hgtx hal;refine wpAnyH_ready (rs := [9]) (by kernel_rfl) (by simp) ?_;refine callH 9 (some 43) rfl rfl (by rfl) (args := #[.agg #[r0, r1, r2, r3, r4, d0, d1, d2, d3, d4, .slice Av nv cv], .agg #[.int .i64 ak, .string anm, .slice Ap np cp, .int .i64 an, .string ax]]) (by go_simp) (HAg.out _ hH2.1.hb) (fun e w4 hR => ?_) ?_
    ·obtain ⟨val, er, rfl, hv4, hb4⟩ := hR;obtain ⟨kr, mr, xr, lr, ksr, nlr, nkr, Alr, Akr, clr, ckr, rfl, hnlr, hnkr, hNr, hlr, hkr⟩ := hv4;have hH4 := And.intro (hH2.1.below hb4) (hH2.2.below hb4);refine ⟨_, rfl, hH4, ?_⟩;simp only [Act.put, aQ, aZ, aC];refine tk 10 33 (.tuple #[.agg #[.int .i64 kr, .int .i64 mr, .string xr, .slice Alr nlr clr, .slice Akr nkr ckr], .int .i64 er]) rfl hH4 ?_;refine tk 11 44 (.agg #[.int .i64 kr, .int .i64 mr, .string xr, .slice Alr nlr clr, .slice Akr nkr ckr]) rfl hH4 ?_;refine tk 12 45 (.int .i64 er) rfl hH4 ?_;have HBt4 := hid (HBt.out.below hb4 HBt.out.lt);refine wpAnyH_ready (rs := [14]) (by kernel_rfl) (by simp) ?_;refine storeH 14 (g := gt) (l := [.int .i64 kr, .int .i64 mr, .string xr, .slice Alr nlr clr, .slice Akr nkr ckr]) rfl rfl (by rfl) _ _ rfl rfl rfl HBt4.out rfl rfl uValue ?_ AllReadyH.nil;have hS9 := hH4.1.far hsz (by have := HB.out; omega) hgt [.int .i64 kr, .int .i64 mr, .string xr, .slice Alr nlr clr, .slice Akr nkr ckr];have hO9 : OwnV B (pt + 3) (.slice Ao k co) la (w4.setCells gt 0 [.int .i64 kr, .int .i64 mr, .string xr, .slice Alr nlr clr, .slice Akr nkr ckr]) := hH4.2.far hgo (by have := HB.out; omega) 0 _;have hv9 : VdV 1048583 B (.agg #[.int .i64 kr, .int .i64 mr, .string xr, .slice Alr nlr clr, .slice Akr nkr ckr]) (w4.setCells gt 0 [.int .i64 kr, .int .i64 mr, .string xr, .slice Alr nlr clr, .slice Akr nkr ckr]) := VdV.keep ⟨kr, mr, xr, lr, ksr, nlr, nkr, Alr, Akr, clr, ckr, rfl, hnlr, hnkr, hNr, hlr, hkr⟩ (below_setCells _ (by have := HB.out; omega));have hb9 := HBt4.out.put (vs := [.int .i64 kr, .int .i64 mr, .string xr, .slice Alr nlr clr, .slice Akr nkr ckr]) rfl;refine ⟨⟨hS9, hO9⟩, ?_⟩;refine tk 15 11 (.int .i64 er) rfl (And.intro hS9 hO9) ?_;refine wpAnyH_done (by kernel_rfl) ?_ _;(try simp only [Exit.then]);go_wp2_with fail
     go_meet;exact ⟨gt, er, _, _, _, _, _, rfl, rfl, hgt, hS9, hO9, hb9, hv9⟩
    exact AllReadyH.nil
   obtain ⟨gt, er, z0, z1, z2, z3, z4, rfl, rfl, hgt, hS5, hO5, hb5, hv5⟩ := hcut;obtain ⟨W5, rfl⟩ := xS wc;have HS5 := hid hS5;have HO5 := hid hO5;have Hb5 := hid hb5;have Hv5 := hid hv5;clear hS5 hO5 hb5 HS4 HO4 HAg;obtain ⟨kz, mz, xz, lz, ksz, nlz, nkz, Alz, Akz, clz, ckz, rfl, rfl, rfl, rfl, rfl, hnlz, hnkz, hNz, hlz, hkz⟩ := hv5.parts;obtain ⟨qe, hqe⟩ := xE (er != 0);cases qe
   ·go_upto_region 14 with fail
    refine wp_region_lit ?_;refine mv (.slice Ao k co) ?_;refine ld [.int .i64 kz, .int .i64 mz, .string xz, .slice Alz nlz clz, .slice Akz nkz ckz] Hb5.out ?_;refine wpl_val (some 52) (v := .slice (some ⟨W5.heap.size, 0, none⟩) 1 1) (w' := W5.alloc (.cells #[.int .i64 kz, .int .i64 mz, .string xz, .slice Alz nlz clz, .slice Akz nkz ckz] 25)) rfl rfl (by go_simp) ?_;simp only [Act.put, aQ, aZ, aC];refine wpl_pushV rfl _ _ rfl HO5.out rfl Hv5.out rfl (by have := Hla.out; omega) (by have := Hb5.out.lt; omega) (by have := HB.out; omega) ?_;intro v' w6 vd hO6 hb6;obtain ⟨A6, c6, rfl⟩ := hO6.shape (n := k + 1) (by simp [Hla.out]);simp only [Act.put, aQ, aZ, aC];refine mv (.slice A6 (k + 1) c6) ?_;refine wpList_nil ?_;(try simp only [Exit.then]);have hS6 := HS5.out.low hsz (by have := HB.out; omega) hb6;go_wp2_with fail
    go_roundw
    case rel => exact ⟨k + 1, la ++ [vd], by go_num, by omega, by simp [Hla.out], hS6, hO6⟩
    simp [intOf]; omega
   go_upto_region 13 with fail
   refine wp_region_lit ?_;refine mv (.agg #[.int .i64 0, .int .i64 0, .string ⟨#[]⟩, .slice none 0 0, .slice none 0 0]) ?_;refine mv (.int .i64 er) ?_;refine st [.int .i64 0, .int .i64 0, .string ⟨#[]⟩, .slice none 0 0, .slice none 0 0] HS5.out.r ?_;refine mv (.int .i64 er) ?_;refine xn ?_;refine rc1 (pt + 1) (Blk.put (vs := [.int .i64 0, .int .i64 0, .string ⟨#[]⟩, .slice none 0 0, .slice none 0 0]) HS5.out.r rfl) ?_;exact pve_put (VdV.zero (by omega)) HS5.out.hb (by omega) HB.out _
  have hki : ¬ ((k : Int) < (na : Int)) := by omega
  clear hkt;obtain rfl : k = na := by omega
  have hcs : j = 0 ∨ 0 < j := by omega
  rcases hcs with hj1 | hj1
  ·have hj1i : ¬ ((0 : Int) < (j : Int)) := (by omega)
   clear hj1;obtain ⟨Am, cm, nn, hAm, hnn⟩ : ∃ A' c' n', Value.slice Ao k co = .slice A' n' c' /\ n' = k := ⟨Ao, co, k, rfl, rfl⟩
   cases hAm;have Hlen : Hid (la.length = k) := Hla;go_upto_region 17 with fail
   clear c0 c1;obtain ⟨qn, hqn⟩ := xE cnm.toList.isEmpty;obtain ⟨c0, c1⟩ := Hc0.out W4 HS4.out.hb;cases qn
   ·have hAr := HO4.out.args Hlen.out;have HCl := hid (call26_any B cnm Ao k co _ W4 hAr (by omega) (Nat.le_trans HB.out HS4.out.hb.size));clear hAr;go_upto_region 20 with fail
    refine wp_region_lit ?_;refine mv (.slice (some ad) n c) ?_;refine mv (.int .i64 (j : Int)) ?_;refine mv (.pointer (some (ad.add (j * 2)))) ?_;refine mv (.pointer (some (ad.add (j * 2)))) ?_;refine mv (.string cnm) ?_;refine mv (.slice Ao k co) ?_;refine wpl_enter (some 77) rfl rfl (by go_simp) HCl.out ?_;rintro e w7 ⟨val, er, rfl, hv7, hb7⟩;obtain ⟨kr, mr, xr, lr, ksr, nlr, nkr, Alr, Akr, clr, ckr, rfl, hnlr, hnkr, hNr, hlr, hkr⟩ := hv7;have HS7 := hid (HS4.out.below hb7);refine ⟨_, rfl, ?_⟩;simp only [Act.put, aQ, aZ, aC];refine mv (.tuple #[.agg #[.int .i64 kr, .int .i64 mr, .string xr, .slice Alr nlr clr, .slice Akr nkr ckr], .int .i64 er]) ?_;refine mv (.agg #[.int .i64 kr, .int .i64 mr, .string xr, .slice Alr nlr clr, .slice Akr nkr ckr]) ?_;refine mv (.int .i64 er) ?_;obtain ⟨u0, u1, u2, u3, u4, hvb, -⟩ := HS7.out.v;refine st [.int .i64 kr, .int .i64 mr, .string xr, .slice Alr nlr clr, .slice Akr nkr ckr] hvb ?_;refine mv (.int .i64 er) ?_;refine wpList_nil ?_;(try simp only [Exit.then]);have HS8 := hid (HS7.out.putV hsz (by have := HB.out; omega) ⟨kr, mr, xr, lr, ksr, nlr, nkr, Alr, Akr, clr, ckr, rfl, hnlr, hnkr, hNr, hlr, hkr⟩);obtain ⟨W8, hW8⟩ := xE (w7.setCells (pt + 2) 0 [.int .i64 kr, .int .i64 mr, .string xr, .slice Alr nlr clr, .slice Akr nkr ckr]);rw [hW8] at HS8 ⊢;clear hW8 hvb HS7 c0 c1;obtain ⟨qe, hqe⟩ := xE (er != 0);cases qe
    ·go_wp2_with fail
     go_roundw
     case rel => exact ⟨j + 1, by go_num, by omega, HS8.out⟩
     simp [intOf]; omega
    go_upto_region 24 with fail
    refine wp_region_lit ?_;refine mv (.agg #[.int .i64 0, .int .i64 0, .string ⟨#[]⟩, .slice none 0 0, .slice none 0 0]) ?_;refine mv (.int .i64 er) ?_;refine st [.int .i64 0, .int .i64 0, .string ⟨#[]⟩, .slice none 0 0, .slice none 0 0] HS8.out.r ?_;refine mv (.int .i64 er) ?_;refine xn ?_;refine rc1 (pt + 1) (Blk.put (vs := [.int .i64 0, .int .i64 0, .string ⟨#[]⟩, .slice none 0 0, .slice none 0 0]) HS8.out.r rfl) ?_;exact pve_put (VdV.zero (by omega)) HS8.out.hb (by omega) HB.out _
   obtain ⟨q1, hq1⟩ := xE ((k : Int) != 1);cases q1
   ·obtain rfl : k = 1 := by
     have : (k : Int) = 1 := by simpa using hq1
     omega
    obtain ⟨ga, v0, v1, v2, v3, v4, ega, hgal, hvat, hvd⟩ := (HO4.out.args Hlen.out).at_ 0 (by omega);cases ega;rw [Nat.zero_mul, addr_zero] at hvat;obtain ⟨f0, f1, f2, f3, f4⟩ := hvat;go_upto_region 18 with fail
    refine wp_region_lit ?_;refine mv (.slice (some ga) 1 co) ?_;refine mv (.pointer (some ga)) ?_;refine mv (.agg #[v0, v1, v2, v3, v4]) ?_;clear f0 f1 f2 f3 f4;obtain ⟨u0, u1, u2, u3, u4, hvb, -⟩ := HS4.out.v;refine stI [v0, v1, v2, v3, v4] hvb rfl (vd_one hvd) uValue ?_;refine wpList_nil ?_;(try simp only [Exit.then]);have hS8 := HS4.out.putV hsz (by have := HB.out; omega) hvd;clear c0 c1 hvb;go_wp2_with fail
    go_roundw
    case rel => exact ⟨j + 1, by go_num, by omega, hS8⟩
    simp [intOf]; omega
   go_upto_region 24 with fail
   refine wp_region_lit ?_;refine mv (.agg #[.int .i64 0, .int .i64 0, .string ⟨#[]⟩, .slice none 0 0, .slice none 0 0]) ?_;refine mv (.int .i64 9) ?_;refine st [.int .i64 0, .int .i64 0, .string ⟨#[]⟩, .slice none 0 0, .slice none 0 0] HS4.out.r ?_;refine mv (.int .i64 9) ?_;refine xn ?_;refine rc1 (pt + 1) (Blk.put (vs := [.int .i64 0, .int .i64 0, .string ⟨#[]⟩, .slice none 0 0, .slice none 0 0]) HS4.out.r rfl) ?_;exact pve_put (VdV.zero (by omega)) HS4.out.hb (by omega) HB.out _
  have hj1i : (0 : Int) < (j : Int) := by omega
  clear hj1;obtain ⟨u0, u1, u2, u3, u4, hvb, hvd⟩ := HS4.out.v;obtain ⟨ku, mu, xu, lu_, ksu, nlu, nku, Alu, Aku, clu, cku, rfl, rfl, rfl, rfl, rfl, hnlu, hnku, hNu, hlu, hku⟩ := hvd.parts;go_upto_region 16 with fail
  clear c0 c1;refine wp_region_lit ?_;refine mv (.slice Ao k co) ?_;refine ld [.int .i64 ku, .int .i64 mu, .string xu, .slice Alu nlu clu, .slice Aku nku cku] hvb ?_;refine wpl_val (some 58) (v := .slice (some ⟨W4.heap.size, 0, none⟩) 1 1) (w' := W4.alloc (.cells #[.int .i64 ku, .int .i64 mu, .string xu, .slice Alu nlu clu, .slice Aku nku cku] 25)) rfl rfl (by go_simp) ?_;simp only [Act.put, aQ, aZ, aC];refine wpl_pushV rfl _ _ rfl HO4.out rfl hvd rfl (by have := Hla.out; omega) (by have := hvb.lt; omega) (by have := HB.out; omega) ?_;intro v' w6 vd hO6 hb6;obtain ⟨Am, cm, rfl⟩ := hO6.shape (n := k + 1) (by simp [Hla.out]);simp only [Act.put, aQ, aZ, aC];refine mv (.slice Am (k + 1) cm) ?_;refine wpList_nil ?_;(try simp only [Exit.then]);have HS6 := hid (HS4.out.low hsz (by have := HB.out; omega) hb6);have Hlen : Hid ((la ++ [vd]).length = k + 1) := hid (by simp [Hla.out]);obtain ⟨nn, hnn⟩ := xE (k + 1);rw [hnn] at Hlen hO6 ⊢;have HO6 := hid hO6;have hnz2 : nn <= 1048577 := by omega
  clear hvb hvd hO6 hb6 HS4 HO4;obtain ⟨qn, hqn⟩ := xE cnm.toList.isEmpty;obtain ⟨c0, c1⟩ := Hc0.out w6 HS6.out.hb;cases qn
  ·have hAr := HO6.out.args Hlen.out;have HCl := hid (call26_any B cnm Am nn cm _ w6 hAr (by omega) (Nat.le_trans HB.out HS6.out.hb.size));clear hAr;go_upto_region 20 with fail
   refine wp_region_lit ?_;refine mv (.slice (some ad) n c) ?_;refine mv (.int .i64 (j : Int)) ?_;refine mv (.pointer (some (ad.add (j * 2)))) ?_;refine mv (.pointer (some (ad.add (j * 2)))) ?_;refine mv (.string cnm) ?_;refine mv (.slice Am nn cm) ?_;refine wpl_enter (some 77) rfl rfl (by go_simp) HCl.out ?_;rintro e w7 ⟨val, er, rfl, hv7, hb7⟩;obtain ⟨kr, mr, xr, lr, ksr, nlr, nkr, Alr, Akr, clr, ckr, rfl, hnlr, hnkr, hNr, hlr, hkr⟩ := hv7;have HS7 := hid (HS6.out.below hb7);refine ⟨_, rfl, ?_⟩;simp only [Act.put, aQ, aZ, aC];refine mv (.tuple #[.agg #[.int .i64 kr, .int .i64 mr, .string xr, .slice Alr nlr clr, .slice Akr nkr ckr], .int .i64 er]) ?_;refine mv (.agg #[.int .i64 kr, .int .i64 mr, .string xr, .slice Alr nlr clr, .slice Akr nkr ckr]) ?_;refine mv (.int .i64 er) ?_;obtain ⟨u0, u1, u2, u3, u4, hvb, -⟩ := HS7.out.v;refine st [.int .i64 kr, .int .i64 mr, .string xr, .slice Alr nlr clr, .slice Akr nkr ckr] hvb ?_;refine mv (.int .i64 er) ?_;refine wpList_nil ?_;(try simp only [Exit.then]);have HS8 := hid (HS7.out.putV hsz (by have := HB.out; omega) ⟨kr, mr, xr, lr, ksr, nlr, nkr, Alr, Akr, clr, ckr, rfl, hnlr, hnkr, hNr, hlr, hkr⟩);obtain ⟨W8, hW8⟩ := xE (w7.setCells (pt + 2) 0 [.int .i64 kr, .int .i64 mr, .string xr, .slice Alr nlr clr, .slice Akr nkr ckr]);rw [hW8] at HS8 ⊢;clear hW8 hvb HS7 c0 c1;obtain ⟨qe, hqe⟩ := xE (er != 0);cases qe
   ·go_wp2_with fail
    go_roundw
    case rel => exact ⟨j + 1, by go_num, by omega, HS8.out⟩
    simp [intOf]; omega
   go_upto_region 24 with fail
   refine wp_region_lit ?_;refine mv (.agg #[.int .i64 0, .int .i64 0, .string ⟨#[]⟩, .slice none 0 0, .slice none 0 0]) ?_;refine mv (.int .i64 er) ?_;refine st [.int .i64 0, .int .i64 0, .string ⟨#[]⟩, .slice none 0 0, .slice none 0 0] HS8.out.r ?_;refine mv (.int .i64 er) ?_;refine xn ?_;refine rc1 (pt + 1) (Blk.put (vs := [.int .i64 0, .int .i64 0, .string ⟨#[]⟩, .slice none 0 0, .slice none 0 0]) HS8.out.r rfl) ?_;exact pve_put (VdV.zero (by omega)) HS8.out.hb (by omega) HB.out _
  obtain ⟨q1, hq1⟩ := xE ((nn : Int) != 1);cases q1
  ·obtain rfl : nn = 1 := by
    have : (nn : Int) = 1 := by simpa using hq1
    omega
   obtain ⟨ga, v0, v1, v2, v3, v4, ega, hgal, hvat, hvd⟩ := (HO6.out.args Hlen.out).at_ 0 (by omega);cases ega;rw [Nat.zero_mul, addr_zero] at hvat;obtain ⟨f0, f1, f2, f3, f4⟩ := hvat;go_upto_region 18 with fail
   refine wp_region_lit ?_;refine mv (.slice (some ga) 1 cm) ?_;refine mv (.pointer (some ga)) ?_;refine mv (.agg #[v0, v1, v2, v3, v4]) ?_;clear f0 f1 f2 f3 f4;obtain ⟨u0, u1, u2, u3, u4, hvb, -⟩ := HS6.out.v;refine stI [v0, v1, v2, v3, v4] hvb rfl (vd_one hvd) uValue ?_;refine wpList_nil ?_;(try simp only [Exit.then]);have hS8 := HS6.out.putV hsz (by have := HB.out; omega) hvd;clear c0 c1 hvb;go_wp2_with fail
   go_roundw
   case rel => exact ⟨j + 1, by go_num, by omega, hS8⟩
   simp [intOf]; omega
  go_upto_region 24 with fail
  refine wp_region_lit ?_;refine mv (.agg #[.int .i64 0, .int .i64 0, .string ⟨#[]⟩, .slice none 0 0, .slice none 0 0]) ?_;refine mv (.int .i64 9) ?_;refine st [.int .i64 0, .int .i64 0, .string ⟨#[]⟩, .slice none 0 0, .slice none 0 0] HS6.out.r ?_;refine mv (.int .i64 9) ?_;refine xn ?_;refine rc1 (pt + 1) (Blk.put (vs := [.int .i64 0, .int .i64 0, .string ⟨#[]⟩, .slice none 0 0, .slice none 0 0]) HS6.out.r rfl) ?_;exact pve_put (VdV.zero (by omega)) HS6.out.hb (by omega) HB.out _
 have hli : ¬ ((j : Int) < (n : Int)) := by omega
 clear hlt
 obtain rfl : j = n := by omega
 obtain ⟨u0, u1, u2, u3, u4, hvb, hvd3⟩ := HS3.out.v
 obtain ⟨ku, mu, xu, lu_, ksu, nlu, nku, Alu, Aku, clu, cku, rfl, rfl, rfl, rfl, rfl, hnlu, hnku, hNu, hlu, hku⟩ := hvd3.parts
 go_upto_region 25 with fail
 refine wp_region_lit ?_
 refine ld [.int .i64 ku, .int .i64 mu, .string xu, .slice Alu nlu clu, .slice Aku nku cku] hvb ?_
 refine st [.int .i64 ku, .int .i64 mu, .string xu, .slice Alu nlu clu, .slice Aku nku cku] HS3.out.r ?_
 refine mv (.int .i64 0) ?_
 refine xn ?_
 refine rc1 (pt + 1) (Blk.put (vs := [.int .i64 ku, .int .i64 mu, .string xu, .slice Alu nlu clu, .slice Aku nku cku]) HS3.out.r rfl) ?_
 exact pve_put ⟨ku, mu, xu, lu_, ksu, nlu, nku, Alu, Aku, clu, cku, rfl, hnlu, hnku, hNu, hlu, hku⟩ HS3.out.hb (by omega) HB.out _
end Go.Proofs.YtkcnmjdomipbjaaGreat
