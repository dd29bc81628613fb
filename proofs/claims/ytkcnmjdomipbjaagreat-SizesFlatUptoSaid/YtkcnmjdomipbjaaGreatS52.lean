import Derived.Test.YtkcnmjdomipbjaaGreatS51
set_option linter.unusedVariables false
set_option maxHeartbeats 100000000
set_option maxRecDepth 100000
namespace Go.Proofs.YtkcnmjdomipbjaaGreat
open Go.RowKit
def octs : List Fn -> Nat
 | [] => 0
 | f :: r => (if f.k = 1 then f.x.size else 0) + octs r
def acts : List Fn -> Nat
 | [] => 0
 | f :: r => (if f.k = 2 then 1 else 0) + acts r
theorem octs_snoc : ∀ (l : List Fn) (f : Fn), octs (l ++ [f]) = octs l + (if f.k = 1 then f.x.size else 0)
 | [], f => by simp [octs]
 | q :: l, f => by rw [List.cons_append, octs, octs_snoc l f, octs]; omega
theorem acts_snoc : ∀ (l : List Fn) (f : Fn), acts (l ++ [f]) = acts l + (if f.k = 2 then 1 else 0)
 | [], f => by simp [acts]
 | q :: l, f => by rw [List.cons_append, acts, acts_snoc l f, acts]; omega
theorem acts_le : ∀ l : List Fn, acts l <= l.length
 | [] => Nat.le_refl _
 | f :: r => by
  have := acts_le r;rw [acts, List.length_cons];split <;> omega
def VRow (B : Nat) (us : List Value) (i : Nat) (w : World) : Prop := ∃ nm v0 v1 v2 v3 v4, us[i * 6]? = some (.string nm) /\ us[i * 6 + 1]? = some v0 /\ us[i * 6 + 2]? = some v1 /\ us[i * 6 + 3]? = some v2 /\ us[i * 6 + 4]? = some v3 /\ us[i * 6 + 5]? = some v4 /\ VdV 1048583 B (.agg #[v0, v1, v2, v3, v4]) w
theorem vars_cells {B : Nat} {A : Option Addr} {w : World} : ∀ n, VarsV B A n w -> ∃ us : List Value, us.length = n * 6 /\ (∀ i, i < n -> VRow B us i w) /\ (∀ u ∈ us, u.oneCell' = true) /\ ∀ ad, A = some ad -> ∀ j u, us[j]? = some u -> w.cell? (ad.add j) = some u
 | 0, _ => ⟨[], rfl, fun i hi => (by omega), fun u hu => (by cases hu), fun ad _ j u hu => (by simp at hu)⟩
 | n + 1, h => by
  obtain ⟨us, h1, h2, h3, h4⟩ := vars_cells n fun i hi => h i (by omega)
  obtain ⟨ad, nm, v0, v1, v2, v3, v4, e, _, ⟨c0, c1, c2, c3, c4, c5⟩, hv⟩ := h n (by omega);obtain ⟨k, m, x, l, ks, nl, nk, Al, Ak, cl, ck, e0, e1, e2, e3, e4, _⟩ := hv.parts;refine ⟨us ++ [.string nm, v0, v1, v2, v3, v4], by simp [h1]; omega, fun i hi => ?_, fun u hu => ?_, fun ad' e' j u hu => ?_⟩
  ·rcases Nat.lt_or_ge i n with hin | hin
   ·obtain ⟨nm', a0, a1, a2, a3, a4, g0, g1, g2, g3, g4, g5, gv⟩ := h2 i hin;have hle : (i + 1) * 6 <= n * 6 := Nat.mul_le_mul_right _ hin;refine ⟨nm', a0, a1, a2, a3, a4, ?_, ?_, ?_, ?_, ?_, ?_, gv⟩;all_goals (rw [List.getElem?_append_left (by omega)]; assumption)
   obtain rfl : i = n := by omega
   refine ⟨nm, v0, v1, v2, v3, v4, ?_, ?_, ?_, ?_, ?_, ?_, hv⟩;all_goals (rw [List.getElem?_append_right (by omega), h1])
   ·rw [Nat.sub_self]; rfl
   ·rw [show i * 6 + 1 - i * 6 = 1 by omega]; rfl
   ·rw [show i * 6 + 2 - i * 6 = 2 by omega]; rfl
   ·rw [show i * 6 + 3 - i * 6 = 3 by omega]; rfl
   ·rw [show i * 6 + 4 - i * 6 = 4 by omega]; rfl
   rw [show i * 6 + 5 - i * 6 = 5 by omega]; rfl
  ·rcases List.mem_append.1 hu with k | k
   ·exact h3 u k
   simp only [List.mem_cons, List.not_mem_nil, or_false] at k;rcases k with rfl | rfl | rfl | rfl | rfl | rfl
   ·rfl
   all_goals (simp_all [Value.oneCell'])
  rw [e] at e'; cases e';rcases Nat.lt_or_ge j (n * 6) with hj | hj
  ·exact h4 ad e j u (by rw [List.getElem?_append_left (by omega)] at hu; exact hu)
  obtain ⟨q, rfl⟩ : ∃ q, j = n * 6 + q := ⟨j - n * 6, by omega⟩
  rw [List.getElem?_append_right (by omega), h1, show n * 6 + q - n * 6 = q by omega] at hu;rw [<- add_of_add]
  match q, hu with
  | 0, hu => rw [addr_zero]; cases hu; exact c0
  | 1, hu => rw [add_one]; cases hu; exact c1
  | 2, hu => rw [add_one]; cases hu; exact c2
  | 3, hu => rw [add_one]; cases hu; exact c3
  | 4, hu => rw [add_one]; cases hu; exact c4
  | 5, hu => rw [add_one]; cases hu; exact c5
  | q + 6, hu => simp at hu
theorem vars_own {B base n : Nat} {v : Value} {us : List Value} {w : World} (h : w.ownsRow base 124 6 v n us) (hr : ∀ i, i < n -> VRow B us i w) : ∃ A c, v = .slice A n c /\ VarsV B A n w := by
 rcases h.2 with ⟨rfl, h0⟩ | ⟨g, cap, cur, rfl, hb, hg, h4⟩
 ·subst h0;exact ⟨none, 0, rfl, fun i hi => by omega⟩
 refine ⟨_, cap, rfl, fun i hi => ?_⟩
 obtain ⟨nm, v0, v1, v2, v3, v4, g0, g1, g2, g3, g4, g5, gv⟩ := hr i hi
 have hle : (i + 1) * 6 <= n * 6 := Nat.mul_le_mul_right _ hi
 refine ⟨⟨g, 0, none⟩, nm, v0, v1, v2, v3, v4, rfl, ⟨cur, _, hg⟩, ?_, gv⟩
 rw [Addr.add_lit, Nat.zero_add]
 exact ⟨(h.cellAt (i * 6) (by omega)).trans g0, (h.cellAt (i * 6 + 1) (by omega)).trans g1, (h.cellAt (i * 6 + 2) (by omega)).trans g2, (h.cellAt (i * 6 + 3) (by omega)).trans g3, (h.cellAt (i * 6 + 4) (by omega)).trans g4, (h.cellAt (i * 6 + 5) (by omega)).trans g5⟩
theorem VRow.keep {B i : Nat} {us : List Value} {w w' : World} (h : VRow B us i w) (hb : Below B w w') : VRow B us i w' := by
 obtain ⟨nm, v0, v1, v2, v3, v4, g0, g1, g2, g3, g4, g5, gv⟩ := h
 exact ⟨nm, v0, v1, v2, v3, v4, g0, g1, g2, g3, g4, g5, gv.keep hb⟩
theorem VRow.snoc {B n : Nat} {us : List Value} {w : World} {nm : ByteArray} {v0 v1 v2 v3 v4 : Value} (hl : us.length = n * 6) (h : ∀ i, i < n -> VRow B us i w) (hv : VdV 1048583 B (.agg #[v0, v1, v2, v3, v4]) w) : ∀ i, i < n + 1 -> VRow B (us ++ [.string nm, v0, v1, v2, v3, v4]) i w := fun i hi => by
 rcases Nat.lt_or_ge i n with hin | hin
 ·obtain ⟨nm', a0, a1, a2, a3, a4, g0, g1, g2, g3, g4, g5, gv⟩ := h i hin;have hle : (i + 1) * 6 <= n * 6 := Nat.mul_le_mul_right _ hin;refine ⟨nm', a0, a1, a2, a3, a4, ?_, ?_, ?_, ?_, ?_, ?_, gv⟩;all_goals (rw [List.getElem?_append_left (by omega)]; assumption)
 obtain rfl : i = n := by omega
 refine ⟨nm, v0, v1, v2, v3, v4, ?_, ?_, ?_, ?_, ?_, ?_, hv⟩
 all_goals (rw [List.getElem?_append_right (by omega), hl])
 ·rw [Nat.sub_self]; rfl
 ·rw [show i * 6 + 1 - i * 6 = 1 by omega]; rfl
 ·rw [show i * 6 + 2 - i * 6 = 2 by omega]; rfl
 ·rw [show i * 6 + 3 - i * 6 = 3 by omega]; rfl
 ·rw [show i * 6 + 4 - i * 6 = 4 by omega]; rfl
 rw [show i * 6 + 5 - i * 6 = 5 by omega]; rfl
theorem pushKH {ops : Array Oper} {Q : Exit -> Act -> World -> Prop} {md : Region.Mode} {S : World -> Prop} {fuel : Nat} {listed : Array Bool} {a : Act} {w : World} {oi : Oper} {rs : List Nat} (i : Nat) (d : Option Tmp) (hi : ops[i]? = some oi) (hd : oi.dst = d) (hw : Region.wanted oi (yielded ops a.tmps) = true) (s x : Operand) {t e : TypeId} {sz n base k cap : Nat} {v : Value} {xs us : List Value} {A : Option Addr} (ho : oi.op = .call { callee := .builtin .append, args := #[s, x], argTypes := #[t, t] })
  (ht : Tryz.prog.underlying t = some (.slice e)) (hI : infoOk (Tryz.prog.info? e) sz = true) (H : w.ownsRow base e sz v n xs) (hs : a.eval s = v) (hx : a.eval x = .slice A k cap) (hul : us.length = k * sz) (hc : 0 < k -> ∃ p, A = some p /\ p.block < w.heap.size /\ ∀ j u, us[j]? = some u -> w.cell? (p.add j) = some u) (hone : ∀ u ∈ us, u.oneCell' = true)
  (hn : n + k <= 1099511627776 / 16) (hbase : base <= w.heap.size)
  (h : ∀ v' w', w'.ownsRow base e sz v' (n + k) (xs ++ us) -> w.grownBy w' v.ownBlock -> S w' /\ wpAnyH Tryz.prog md ops Q S fuel (listed.setIfInBounds i true) (a.put d v') w') (hrs : AllReadyH Tryz.prog md ops Q S fuel listed a w rs) : AllReadyH Tryz.prog md ops Q S fuel listed a w (i :: rs) :=
 AllReadyH.cons hi (fun K hK => by
  rw [if_pos hw];subst hd;obtain ⟨i0, z, hi, hz, hsize, hby2, hzs, hsz⟩ := info_of hI;refine wp_append_any (P := Tryz.prog) _ s x t ho base e i0 z sz i0.bytes ht hi hz hsize rfl hzs hsz v n xs hs H w.heap.size A k cap us hx ⟨hul, hc⟩ hone (by unfold maxLen; omega) ?_ hbase ?_
  ·have : (n + k) * i0.bytes <= (n + k) * 1000 := Nat.mul_le_mul_left _ hby2;omega
  intro v' w' h1 h2 _;obtain ⟨hS, hW⟩ := h v' w' h1 h2;exact hK.out _ _ hS fun _ => hW) hrs
theorem one11 {q0 q1 q2 q3 q4 e0 e1 e2 e3 e4 : Value} {A : Option Addr} {n c : Nat} (h1 : ([q0, q1, q2, q3, q4] : List Value).all (·.oneCell') = true) (h2 : ([e0, e1, e2, e3, e4] : List Value).all (·.oneCell') = true) : ([q0, q1, q2, q3, q4, e0, e1, e2, e3, e4, .slice A n c] : List Value).all (·.oneCell') = true := by
 have e : ([q0, q1, q2, q3, q4, e0, e1, e2, e3, e4, .slice A n c] : List Value) = [q0, q1, q2, q3, q4] ++ ([e0, e1, e2, e3, e4] ++ [.slice A n c]) := rfl
 rw [e, List.all_append, List.all_append, h1, h2]
 rfl
theorem VarsV.farC {B n g : Nat} {A : Option Addr} {w : World} {ty : TypeId} {cs : Array Value} (h : VarsV B A n w) (hB : Blk w g ty cs) (hx : ty ≠ 124) (o : Nat) (vs : List Value) (hb : Below B w (w.setCells g o vs)) : VarsV B A n (w.setCells g o vs) := fun i hi => by
 obtain ⟨ad, nm, v0, v1, v2, v3, v4, e, ⟨cs', fr, h1⟩, h2, h3⟩ := h i hi
 have hne : ad.block ≠ g := fun e => by
  have hB' : w.heap[g]? = some (.cells cs ty (0, 0)) := hB;rw [e, hB'] at h1;injection h1 with h1
  injection h1 with _ e2
  exact hx e2
 have hk := setCells_far vs o w hne
 exact ⟨ad, nm, v0, v1, v2, v3, v4, e, ⟨cs', fr, hk.trans h1⟩, h2.keep (by rw [block_of_add]; exact hk), h3.keep hb⟩
def PNds (base pl : Nat) (us : Value) (fs : List Fn) (w : World) (e : Ending) (w' : World) : Prop := ∃ b : Bool, e = .returned (.bool b) /\ (b = true -> ∃ t' l' hs', TS base pl us t' l' hs' (octs fs) w' /\ hs'.length = acts fs) /\ (b = false -> TFl pl w') /\ TF XT base w w'
theorem nodes28_any (base pl : Nat) (hbl : base <= pl) (us : Value) (t : Te) (B : Nat) (hB : B <= base) (fs : List Fn) (n : Nat) (hn : fs.length = n) (hnz : n <= 1024) (hok : ∀ f ∈ fs, f.ok) (A : Option Addr) (c : Nat) (v0 v1 v2 v3 v4 : Value) (w : World) (hT : TS base pl us t [] [] 0 w) (hv : VdV 1048583 B (.agg #[v0, v1, v2, v3, v4]) w) (hr : RowsV w (fun b => b < base) 9 A 0 (fnRows fs)) : Calls Tryz.prog 32 #[.pointer (some ⟨pl, 0, none⟩), .slice A n c, .agg #[v0, v1, v2, v3, v4, v0, v1, v2, v3, v4, .slice none 0 0]] w (PNds base pl us fs w) := by
 obtain ⟨W, hW⟩ := xE (w.alloc (.cells #[v0, v1, v2, v3, v4, v0, v1, v2, v3, v4, .slice none 0 0] 99))
 have hbw : Below w.heap.size w W := by rw [<- hW]; exact alloc_below _ _
 have HX : Hid (Blk W w.heap.size 99 #[v0, v1, v2, v3, v4, v0, v1, v2, v3, v4, .slice none 0 0]) := hid (by rw [<- hW]; exact Blk.new _ _ _)
 have hplw := hT.lt
 have HT := hid (hT.below hbw)
 have Hv := hid (hv.below hbw)
 have Hb := hid hbw
 have Hr := hid hr
 have Hn := hid hn
 have Hok := hid hok
 obtain ⟨pt, hpt⟩ := xE w.heap.size
 rw [hpt] at HX
 clear hbw hT hv hr hn hok
 go_enter Tryz.func32, Tryz.ntmps32
 go_wp2_with fail
 clear hW
 go_loopw [7] (fun i wr => ∃ (j : Nat) (t : Te) (l : List UInt8) (hs : List Ho) (q0 q1 q2 q3 q4 e0 e1 e2 e3 e4 : Value) (Av : Option Addr) (nv cv : Nat), i = .int .i64 (j : Int) /\ j <= n /\ TS base pl us t l hs (octs (fs.take j)) wr /\ hs.length = acts (fs.take j) /\ TF XT base w wr /\ (Blk wr pt 99 #[q0, q1, q2, q3, q4, e0, e1, e2, e3, e4, .slice Av nv cv] /\ VdV 1048583 B (.agg #[q0, q1, q2, q3, q4]) wr /\ VdV 1048583 B (.agg #[e0, e1, e2, e3, e4]) wr /\ VarsV B Av nv wr /\ nv <= j)) (fun i _ => n - (intOf i).toNat)
 case atStart => exact ⟨0, t, [], [], v0, v1, v2, v3, v4, v0, v1, v2, v3, v4, none, 0, 0, rfl, Nat.zero_le _, HT.out, rfl, TF.of_below Hb.out, HX.out, Hv.out, Hv.out, fun i hi => by omega, Nat.le_refl _⟩
 obtain ⟨j, t1, l1, hs1, q0, q1, q2, q3, q4, e0, e1, e2, e3, e4, Av, nv, cv, rfl, hj, hT, hhs, hTF, hE, hvq, hve, hvs, hnv⟩ := hrel
 obtain ⟨W1, rfl⟩ := xS wr
 have HT1 := hid hT
 have Hhs := hid hhs
 have HTF := hid hTF
 have HE := hid hE
 have Hvq := hid hvq
 have Hve := hid hve
 have Hvs := hid hvs
 clear hT hhs hTF hE hvq hve hvs HX HT Hv Hb
 have hj0 : (0 : Int) <= (j : Int) := by omega
 by_cases hlt : j < n
 ·have hli : (j : Int) < (n : Int) := by omega
  have hjl : j < fs.length := by have := Hn.out; omega
  have hlow : Below base w W1 := HTF.out.to_below (by omega);have hrr : RowsV W1 (fun b => b < base) 9 A 0 (fnRows fs) := RowsV.keep hlow.size (fun b hS _ => ⟨hS, hlow.block b hS⟩) _ _ _ 0 Hr.out;have hrr2 : RowsV W1 (fun b => b < base) 9 A 0 ((fs.map Fn.tn).map Tn.row) := by rw [<- tnRows_map]; exact hrr
  obtain ⟨ad, rfl, hadb, hadl, hrow⟩ := RowsV.get hrr2 (k := j) (by simpa using hjl);rw [List.getElem_map] at hrow;have hfo := Hok.out _ (List.getElem_mem hjl);have hos : octs (fs.take (j + 1)) = octs (fs.take j) + (if (fs[j]).k = 1 then (fs[j]).x.size else 0) := by rw [take_snoc hjl, octs_snoc]
  have has : acts (fs.take (j + 1)) = acts (fs.take j) + (if (fs[j]).k = 2 then 1 else 0) := by rw [take_snoc hjl, acts_snoc]
  have hal1 : acts (fs.take j) <= 1024 := by have := acts_le (fs.take j); rw [List.length_take] at this; omega
  obtain ⟨ff, hff⟩ := xE fs[j];rw [hff] at hrow hfo hos has;obtain ⟨kk, xx, nm, pp, aa, ss, uu⟩ := ff;obtain ⟨hk, hca, hpl16, hxz⟩ := hfo;simp only at hk hca hpl16 hxz hos has;obtain ⟨np, hnp⟩ := xE pp.length;obtain ⟨Ap, cp, Ab, cb, Ae, ce, t0, t1_, t2, t3, t4, t5, t6, t7, t8, rp, -, -⟩ := Tn.at_ hrow hnp rfl rfl;simp only [List.length_nil] at t4 t5;have Hos := hid hos;have Has := hid has;have Hk := hid hk;have Hca := hid hca;have Hrp := hid rp;have hnpz : np <= 16 := by omega
  clear hrow hrr hrr2 hlow hk hca rp hos has hff hpl16;go_upto_region 4 with fail
  refine wp_region_lit ?_;refine mv (.slice (some ad) n c) ?_;refine mv (.int .i64 (j : Int)) ?_;refine mv (.pointer (some (ad.add (j * 9)))) ?_;refine mv (.agg #[.int .i64 kk, .string xx, .string nm, .slice Ap np cp, .slice Ab 0 cb, .slice Ae 0 ce, .int .i64 aa, .int .i64 ss, .int .i64 uu]) ?_;clear t0 t1_ t2 t3 t4 t5 t6 t7 t8;refine wpl_val (some 8) (v := .pointer (some ⟨W1.heap.size, 0, none⟩)) (w' := W1.alloc (.cells #[.int .i64 0, .string ⟨#[]⟩, .string ⟨#[]⟩, .slice none 0 0, .slice none 0 0, .slice none 0 0, .int .i64 0, .int .i64 0, .int .i64 0] 52)) rfl rfl (by go_simp) ?_;simp only [Act.put, aQ, aZ, aC];have hB8 : Blk (W1.alloc (.cells #[.int .i64 0, .string ⟨#[]⟩, .string ⟨#[]⟩, .slice none 0 0, .slice none 0 0, .slice none 0 0, .int .i64 0, .int .i64 0, .int .i64 0] 52)) W1.heap.size 52 #[.int .i64 0, .string ⟨#[]⟩, .string ⟨#[]⟩, .slice none 0 0, .slice none 0 0, .slice none 0 0, .int .i64 0, .int .i64 0, .int .i64 0] := Blk.new _ _ _;refine st [.int .i64 kk, .string xx, .string nm, .slice Ap np cp, .slice Ab 0 cb, .slice Ae 0 ce, .int .i64 aa, .int .i64 ss, .int .i64 uu] hB8 ?_;refine wpList_nil ?_;(try simp only [Exit.then]);have hal : Below W1.heap.size W1 (W1.alloc (.cells #[.int .i64 0, .string ⟨#[]⟩, .string ⟨#[]⟩, .slice none 0 0, .slice none 0 0, .slice none 0 0, .int .i64 0, .int .i64 0, .int .i64 0] 52)) := alloc_below _ _;have hb2 : Below W1.heap.size W1 ((W1.alloc (.cells #[.int .i64 0, .string ⟨#[]⟩, .string ⟨#[]⟩, .slice none 0 0, .slice none 0 0, .slice none 0 0, .int .i64 0, .int .i64 0, .int .i64 0] 52)).setCells W1.heap.size 0 [.int .i64 kk, .string xx, .string nm, .slice Ap np cp, .slice Ab 0 cb, .slice Ae 0 ce, .int .i64 aa, .int .i64 ss, .int .i64 uu]) := hal.trans (below_setCells _ (Nat.le_refl _));have HN2 := hid (hB8.put (vs := [.int .i64 kk, .string xx, .string nm, .slice Ap np cp, .slice Ab 0 cb, .slice Ae 0 ce, .int .i64 aa, .int .i64 ss, .int .i64 uu]) rfl);have HT2 := hid (HT1.out.below hb2);have HTF2 := hid (HTF.out.below hb2);have HE2 := hid (HE.out.below hb2 HE.out.lt);have Hvq2 := hid (Hvq.out.below hb2);have Hve2 := hid (Hve.out.below hb2);have Hvs2 := hid (Hvs.out.below hb2);have Hrp2 := hid (Hrp.out.below hb2);have hpn : pt < W1.heap.size := HE.out.lt;obtain ⟨W2, hW2⟩ := xE ((W1.alloc (.cells #[.int .i64 0, .string ⟨#[]⟩, .string ⟨#[]⟩, .slice none 0 0, .slice none 0 0, .slice none 0 0, .int .i64 0, .int .i64 0, .int .i64 0] 52)).setCells W1.heap.size 0 [.int .i64 kk, .string xx, .string nm, .slice Ap np cp, .slice Ab 0 cb, .slice Ae 0 ce, .int .i64 aa, .int .i64 ss, .int .i64 uu]);rw [hW2] at HN2 HT2 HTF2 HE2 Hvq2 Hve2 Hvs2 Hrp2 ⊢;obtain ⟨pn, hpnx⟩ := xE W1.heap.size;rw [hpnx] at HN2 hpn ⊢;clear hW2 hpnx hal hB8 hb2 HT1 HTF HE Hvq Hve Hvs Hrp;have HSp := hid (spend28_any base pl hbl t1 aa W2 HT2.out.te HT2.out.u0 (by rw [HT2.out.fuel]; exact HT2.out.u1) (by rw [HT2.out.fuel]; exact Int.le_refl _));have n6 := (HN2.out.cell 6).trans rfl;go_upto_region 5 with fail
  refine wp_region_lit ?_;refine mv (.pointer (some ⟨pl, 0, none⟩)) ?_;refine mv (.pointer (some ⟨pn, 6, none⟩)) ?_;refine mv (.int .i64 aa) ?_;refine wpl_enter (some 25) rfl rfl (by go_simp) HSp.out ?_;rintro e w3 ⟨b3, rfl, hb3, ht3⟩;refine ⟨_, rfl, ?_⟩;simp only [Act.put, aQ, aZ, aC];refine mv (.bool (!b3)) ?_;refine wpList_nil ?_;(try simp only [Exit.then]);clear n6 HSp;have HTF3 := hid (HTF2.out.trans (ht3.wide XTe_XT));obtain ⟨W3, rfl⟩ := xS w3;cases b3
  ·rw [if_neg (by decide)] at hb3;obtain ⟨er', at', hte, hne⟩ := hb3;go_upto_region 6 with fail
   refine wp_region_lit ?_;refine mv (.bool false) ?_;refine xn ?_;refine bodyPost_ret (results_tmp rfl _ _ _) rfl ?_;exact ⟨false, rfl, fun h => absurd h (by decide), fun _ => ⟨_, hte, hne⟩, HTF3.out⟩
  rw [if_pos rfl] at hb3;obtain ⟨hlt3, hte3⟩ := hb3;obtain ⟨t3, ht3e⟩ : ∃ y : Te, { t1 with used := t1.used + 1 } = y := ⟨_, rfl⟩
  have HT3 : Hid (TS base pl us t3 l1 hs1 (octs (fs.take j)) W3) := hid (by
   rw [<- ht3e];have h1 := HT2.out.fuel;have h2 := HT2.out.u0;refine ⟨hte3, HT2.out.us_, HT2.out.fuel, HT2.out.most, by show 0 <= t1.used + 1; omega, by show t1.used + 1 <= 65536; omega, ?_, HT2.out.len, own_tfX HT2.out.holes ht3 rfl, HT2.out.sum, HT2.out.trace, HT2.out.fine⟩;exact ownB_same HT2.out.out fun g cur hg hc => ht3.block g (heap_lt hc) (.inr ⟨_, _, _, hc, rfl⟩))
  have hlow3 : Below base W2 W3 := ht3.to_below (by have := HT2.out.lt; omega);have HN3 := hid (HN2.out.tf ht3 rfl);have HE3 := hid (HE2.out.tf ht3 rfl);have Hvq3 := hid (Hvq2.out.keep (hlow3.mono hB));have Hve3 := hid (Hve2.out.keep (hlow3.mono hB));have Hvs3 := hid (Hvs2.out.tf ht3 rfl (hlow3.mono hB));have Hrp3 : Hid (RowsV W3 (fun _ => True) 2 Ap 0 (pp.map Ca.row)) := hid (RowsV.keep hlow3.size (fun b hS _ => ⟨trivial, hlow3.block b hS⟩) _ _ _ 0 Hrp2.out);clear hte3 hlt3 ht3e hlow3 HT2 HN2 HE2 Hvq2 Hve2 Hvs2 Hrp2 HTF2 ht3;have n0 := (HN3.out.cell 0).trans rfl;rcases Hk.out with rfl | rfl | rfl
  ·have HNd := hid (node28_text base pl hbl us t3 l1 hs1 (octs (fs.take j)) (.agg #[q0, q1, q2, q3, q4, e0, e1, e2, e3, e4, .slice Av nv cv]) B 1 rfl xx nm Ap Ab Ae np cp cb ce aa ss uu W3 hxz HT3.out ⟨q0, q1, q2, q3, q4, e0, e1, e2, e3, e4, Av, nv, cv, rfl, Hvq3.out, Hve3.out, Hvs3.out, by omega⟩);go_upto_region 14 with fail
   clear n0;refine wp_region_lit ?_;refine mv (.pointer (some ⟨pl, 0, none⟩)) ?_;refine ld [.int .i64 1, .string xx, .string nm, .slice Ap np cp, .slice Ab 0 cb, .slice Ae 0 ce, .int .i64 aa, .int .i64 ss, .int .i64 uu] HN3.out ?_;refine ld [q0, q1, q2, q3, q4, e0, e1, e2, e3, e4, .slice Av nv cv] HE3.out ?_;refine wpl_enter (some 63) rfl rfl (by go_simp) HNd.out ?_;rintro e w4 ⟨b4, rfl, hs4, hf4, ht4⟩;refine ⟨_, rfl, ?_⟩;simp only [Act.put, aQ, aZ, aC];refine mv (.bool (!b4)) ?_;refine wpList_nil ?_;(try simp only [Exit.then]);obtain ⟨W4, rfl⟩ := xS w4;have HTF4 := hid (HTF3.out.trans ht4);have hlow4 : Below base W3 W4 := ht4.to_below (by have := HT3.out.lt; omega);cases b4
   ·go_upto_region 15 with fail
    refine wp_region_lit ?_;refine mv (.bool false) ?_;refine xn ?_;refine bodyPost_ret (results_tmp rfl _ _ _) rfl ?_;exact ⟨false, rfl, fun h => absurd h (by decide), fun _ => hf4 rfl, HTF4.out⟩
   obtain ⟨t4, l4, hs4', hTS4, hl4⟩ := hs4 rfl;have hE4 := HE3.out.tf ht4 rfl;have hvq4 := Hvq3.out.keep (hlow4.mono hB);have hve4 := Hve3.out.keep (hlow4.mono hB);have hvs4 := Hvs3.out.tf ht4 rfl (hlow4.mono hB);go_wp2_with fail
   go_roundw
   case rel => exact ⟨j + 1, t4, l4, hs4', q0, q1, q2, q3, q4, e0, e1, e2, e3, e4, Av, nv, cv, by go_num, by omega, by rw [Hos.out]; rw [if_pos rfl]; exact hTS4, by rw [Has.out, hl4, Hhs.out]; rfl, HTF4.out, hE4, hvq4, hve4, hvs4, by omega⟩
   simp [intOf]; omega
  ·have HNd := hid (node28_act base pl hbl us t3 l1 hs1 (octs (fs.take j)) (.agg #[q0, q1, q2, q3, q4, e0, e1, e2, e3, e4, .slice Av nv cv]) B hB xx nm pp Ap Ab Ae np cp cb ce hnp (by omega) Hca.out (by have := Hhs.out; omega) aa ss uu W3 HT3.out ⟨q0, q1, q2, q3, q4, e0, e1, e2, e3, e4, Av, nv, cv, rfl, Hvq3.out, Hve3.out, Hvs3.out, by omega⟩ Hrp3.out);go_upto_region 14 with fail
   clear n0;refine wp_region_lit ?_;refine mv (.pointer (some ⟨pl, 0, none⟩)) ?_;refine ld [.int .i64 2, .string xx, .string nm, .slice Ap np cp, .slice Ab 0 cb, .slice Ae 0 ce, .int .i64 aa, .int .i64 ss, .int .i64 uu] HN3.out ?_;refine ld [q0, q1, q2, q3, q4, e0, e1, e2, e3, e4, .slice Av nv cv] HE3.out ?_;refine wpl_enter (some 63) rfl rfl (by go_simp) HNd.out ?_;rintro e w4 ⟨b4, rfl, hs4, hf4, ht4⟩;refine ⟨_, rfl, ?_⟩;simp only [Act.put, aQ, aZ, aC];refine mv (.bool (!b4)) ?_;refine wpList_nil ?_;(try simp only [Exit.then]);obtain ⟨W4, rfl⟩ := xS w4;have HTF4 := hid (HTF3.out.trans ht4);have hlow4 : Below base W3 W4 := ht4.to_below (by have := HT3.out.lt; omega);cases b4
   ·go_upto_region 15 with fail
    refine wp_region_lit ?_;refine mv (.bool false) ?_;refine xn ?_;refine bodyPost_ret (results_tmp rfl _ _ _) rfl ?_;exact ⟨false, rfl, fun h => absurd h (by decide), fun _ => hf4 rfl, HTF4.out⟩
   obtain ⟨t4, l4, hs4', hTS4, hl4⟩ := hs4 rfl;have hE4 := HE3.out.tf ht4 rfl;have hvq4 := Hvq3.out.keep (hlow4.mono hB);have hve4 := Hve3.out.keep (hlow4.mono hB);have hvs4 := Hvs3.out.tf ht4 rfl (hlow4.mono hB);go_wp2_with fail
   go_roundw
   case rel => exact ⟨j + 1, t4, l4, hs4', q0, q1, q2, q3, q4, e0, e1, e2, e3, e4, Av, nv, cv, by go_num, by omega, by rw [Hos.out]; rw [if_neg (by decide), Nat.add_zero]; exact hTS4, by rw [Has.out, hl4, Hhs.out]; rfl, HTF4.out, hE4, hvq4, hve4, hvs4, by omega⟩
   simp [intOf]; omega
  have HPi := hid (pipe27_any B (.agg #[q0, q1, q2, q3, q4, e0, e1, e2, e3, e4, .slice Av nv cv]) pp np hnp (by omega) Ap cp W3 ⟨q0, q1, q2, q3, q4, e0, e1, e2, e3, e4, Av, nv, cv, rfl, Hvq3.out, Hve3.out, Hvs3.out, by omega⟩ (by have := HT3.out.lt; omega) Hca.out Hrp3.out);go_upto_region 8 with fail
  clear n0;have n3 := (HN3.out.cell 3).trans rfl;refine wp_region_lit ?_;refine ld [q0, q1, q2, q3, q4, e0, e1, e2, e3, e4, .slice Av nv cv] HE3.out ?_;refine mv (.pointer (some ⟨pn, 3, none⟩)) ?_;refine mv (.slice Ap np cp) ?_;clear n3;refine wpl_enter (some 34) rfl rfl (by go_simp) HPi.out ?_;rintro e w4 ⟨val, er, rfl, hv4, hb4⟩;obtain ⟨kr, mr, xr, lr, ksr, nlr, nkr, Alr, Akr, clr, ckr, rfl, hnlr, hnkr, hNr, hlr, hkr⟩ := hv4;refine ⟨_, rfl, ?_⟩;simp only [Act.put, aQ, aZ, aC];refine mv (.tuple #[.agg #[.int .i64 kr, .int .i64 mr, .string xr, .slice Alr nlr clr, .slice Akr nkr ckr], .int .i64 er]) ?_;refine mv (.agg #[.int .i64 kr, .int .i64 mr, .string xr, .slice Alr nlr clr, .slice Akr nkr ckr]) ?_;refine mv (.int .i64 er) ?_;refine wpl_val (some 9) (v := .pointer (some ⟨w4.heap.size, 0, none⟩)) (w' := w4.alloc (.cells #[.int .i64 0, .int .i64 0, .string ⟨#[]⟩, .slice none 0 0, .slice none 0 0] 25)) rfl rfl (by go_simp) ?_;simp only [Act.put, aQ, aZ, aC];have hB9 : Blk (w4.alloc (.cells #[.int .i64 0, .int .i64 0, .string ⟨#[]⟩, .slice none 0 0, .slice none 0 0] 25)) w4.heap.size 25 #[.int .i64 0, .int .i64 0, .string ⟨#[]⟩, .slice none 0 0, .slice none 0 0] := Blk.new _ _ _;refine st [.int .i64 kr, .int .i64 mr, .string xr, .slice Alr nlr clr, .slice Akr nkr ckr] hB9 ?_;refine mv (.int .i64 er) ?_;refine wpList_nil ?_;(try simp only [Exit.then]);have hal : Below w4.heap.size w4 (w4.alloc (.cells #[.int .i64 0, .int .i64 0, .string ⟨#[]⟩, .slice none 0 0, .slice none 0 0] 25)) := alloc_below _ _;have hb5 : Below w4.heap.size w4 ((w4.alloc (.cells #[.int .i64 0, .int .i64 0, .string ⟨#[]⟩, .slice none 0 0, .slice none 0 0] 25)).setCells w4.heap.size 0 [.int .i64 kr, .int .i64 mr, .string xr, .slice Alr nlr clr, .slice Akr nkr ckr]) := hal.trans (below_setCells _ (Nat.le_refl _));have HV5 := hid (hB9.put (vs := [.int .i64 kr, .int .i64 mr, .string xr, .slice Alr nlr clr, .slice Akr nkr ckr]) rfl);have hb35 := hb4.trans (hb5.mono hb4.size);have HN5 := hid (HN3.out.below hb35 HN3.out.lt);have HE5 := hid (HE3.out.below hb35 HE3.out.lt);have HT5 := hid (HT3.out.below hb35);have HTF5 := hid (HTF3.out.below hb35);have Hvq5 := hid (Hvq3.out.below hb35);have Hve5 := hid (Hve3.out.below hb35);have Hvs5 := hid (Hvs3.out.below hb35);have Hval5 : Hid (VdV 1048583 B (.agg #[.int .i64 kr, .int .i64 mr, .string xr, .slice Alr nlr clr, .slice Akr nkr ckr]) ((w4.alloc (.cells #[.int .i64 0, .int .i64 0, .string ⟨#[]⟩, .slice none 0 0, .slice none 0 0] 25)).setCells w4.heap.size 0 [.int .i64 kr, .int .i64 mr, .string xr, .slice Alr nlr clr, .slice Akr nkr ckr])) := hid (VdV.below ⟨kr, mr, xr, lr, ksr, nlr, nkr, Alr, Akr, clr, ckr, rfl, hnlr, hnkr, hNr, hlr, hkr⟩ hb5);obtain ⟨W5, hW5⟩ := xE ((w4.alloc (.cells #[.int .i64 0, .int .i64 0, .string ⟨#[]⟩, .slice none 0 0, .slice none 0 0] 25)).setCells w4.heap.size 0 [.int .i64 kr, .int .i64 mr, .string xr, .slice Alr nlr clr, .slice Akr nkr ckr]);rw [hW5] at HV5 HN5 HE5 HT5 HTF5 Hvq5 Hve5 Hvs5 Hval5 ⊢;obtain ⟨gx, hgx⟩ := xE w4.heap.size;rw [hgx] at HV5 ⊢;clear hW5 hgx hal hb5 hB9 hb35 hb4 HN3 HE3 HT3 HTF3 Hvq3 Hve3 Hvs3 HPi hlr hkr;obtain ⟨qe, hqe⟩ := xE (er != 0);cases qe;case true =>
   have n6 := (HN5.out.cell 6).trans rfl;have HFa := hid (fail28_any base pl hbl t3 aa er W5 HT5.out.te);go_upto_region 10 with fail
   refine wp_region_lit ?_;refine mv (.pointer (some ⟨pl, 0, none⟩)) ?_;refine mv (.pointer (some ⟨pn, 6, none⟩)) ?_;refine mv (.int .i64 aa) ?_;refine mv (.int .i64 er) ?_;refine wpl_enter (some 43) rfl rfl (by go_simp) HFa.out ?_;rintro e w9 ⟨rfl, ⟨er', at', hte, hne⟩, htf⟩;refine ⟨_, rfl, ?_⟩;simp only [Act.put, aQ, aZ, aC];refine mv (.bool false) ?_;refine xn ?_;refine bodyPost_ret (results_tmp rfl _ _ _) rfl ?_;exact ⟨false, rfl, fun h => absurd h (by decide), fun _ => ⟨_, hte, hne (bne_iff_ne.1 hqe)⟩, HTF5.out.trans (htf.wide XTe_XT)⟩
  obtain ⟨us, hul, hvrow, hone, hcell0⟩ := vars_cells nv Hvs5.out;have hBs : B <= W5.heap.size := by have := HT5.out.lt; omega
  go_upto_region 12 with fail
  clear hqe;refine wp_region_held_drew (S := fun wy => Below W5.heap.size W5 wy) (by kernel_rfl) (Below.refl _ _).drew (fun hHeld => ?_);obtain ⟨W6, hW6⟩ := xE W5.drew;rw [hW6] at hHeld ⊢;clear hW6;refine tk 0 44 (.slice none 0 0) rfl hHeld ?_;refine tk 1 45 (.pointer (some ⟨pt, 10, none⟩)) rfl hHeld ?_;refine tq 2 46 (.slice Av nv cv) rfl (yc pt 10 fun _ h => ((HE5.out.below h HE5.out.lt).cell 10).trans rfl) hHeld ?_;refine tk 4 48 (.pointer (some ⟨pn, 2, none⟩)) rfl hHeld ?_;refine tq 5 49 (.string nm) rfl (yc pn 2 fun _ h => ((HN5.out.below h HN5.out.lt).cell 2).trans rfl) hHeld ?_;refine tq 6 50 (.agg #[.int .i64 kr, .int .i64 mr, .string xr, .slice Alr nlr clr, .slice Akr nkr ckr]) rfl (yl [.int .i64 kr, .int .i64 mr, .string xr, .slice Alr nlr clr, .slice Akr nkr ckr] (fun w h => HV5.out.below h HV5.out.lt)) hHeld ?_;refine tk 7 51 (.agg #[.string nm, .int .i64 kr, .int .i64 mr, .string xr, .slice Alr nlr clr, .slice Akr nkr ckr]) rfl hHeld ?_;refine wpAnyH_ready (rs := [3, 8]) (by kernel_rfl) (by simp) ?_;refine pushKH 3 (some 47) rfl rfl (by rfl) _ _ rfl Tryz.underlying97 info_Named (World.ownsRow_nil W6 W5.heap.size 124 6) rfl rfl hul (fun h0 => by
   obtain ⟨ad2, _, _, _, _, _, _, e2, ⟨_, _, hh2⟩, _⟩ := Hvs5.out 0 h0;have hl := heap_lt hh2;exact ⟨ad2, e2, Nat.lt_of_lt_of_le hl hHeld.size, fun q u hu => (hHeld.cell (p := ad2.add q) (by rw [block_of_add]; exact hl)).trans (hcell0 ad2 e2 q u hu)⟩) hone (by omega) hHeld.size (fun v7 w7 ho7 hg7 => ?_) ?_
  ·obtain ⟨A7, c7, rfl⟩ := own_shape ho7;rw [Nat.zero_add] at ho7 ⊢;rw [List.nil_append] at ho7;have hbs7 : Below W6.heap.size W6 w7 := ⟨hg7.os, hg7.tape, hg7.output, hg7.size, fun q hq => hg7.block q hq (by simp [Value.ownBlock])⟩
   have hb7 := hHeld.trans (hbs7.mono hHeld.size);refine ⟨hb7, ?_⟩;simp only [Act.put, aQ, aZ, aC];refine wpAnyH_ready (rs := [8]) (by kernel_rfl) (by simp) ?_;have hal : Below w7.heap.size w7 (w7.alloc (.cells #[.string nm, .int .i64 kr, .int .i64 mr, .string xr, .slice Alr nlr clr, .slice Akr nkr ckr] 124)) := alloc_below _ _;have HBb : Hid (Blk (w7.alloc (.cells #[.string nm, .int .i64 kr, .int .i64 mr, .string xr, .slice Alr nlr clr, .slice Akr nkr ckr] 124)) w7.heap.size 124 #[.string nm, .int .i64 kr, .int .i64 mr, .string xr, .slice Alr nlr clr, .slice Akr nkr ckr]) := hid (Blk.new _ _ _);have hb8 : Below W5.heap.size W5 (w7.alloc (.cells #[.string nm, .int .i64 kr, .int .i64 mr, .string xr, .slice Alr nlr clr, .slice Akr nkr ckr] 124)) := hb7.trans (hal.mono hb7.size);have ho8 := own_below ho7 hal;refine valH 8 (some 52) rfl rfl (by rfl) (.slice (some ⟨w7.heap.size, 0, none⟩) 1 1) (w7.alloc (.cells #[.string nm, .int .i64 kr, .int .i64 mr, .string xr, .slice Alr nlr clr, .slice Akr nkr ckr] 124)) (by go_simp) ?_ AllReadyH.nil;refine ⟨hb8, ?_⟩;simp only [Act.put, aQ, aZ, aC];obtain ⟨w7x, hWx⟩ := xE (w7.alloc (.cells #[.string nm, .int .i64 kr, .int .i64 mr, .string xr, .slice Alr nlr clr, .slice Akr nkr ckr] 124));obtain ⟨gb, hgb⟩ := xE w7.heap.size;rw [hWx] at HBb hb8 ho8 ⊢;rw [hgb] at HBb ⊢;clear hWx hgb hal;refine wpAnyH_ready (rs := [9]) (by kernel_rfl) (by simp) ?_;refine pushKH 9 (some 53) rfl rfl (by rfl) _ _ rfl Tryz.underlying97 info_Named ho8 rfl rfl (us := [.string nm, .int .i64 kr, .int .i64 mr, .string xr, .slice Alr nlr clr, .slice Akr nkr ckr]) (k := 1) rfl (fun _ => ⟨⟨gb, 0, none⟩, rfl, HBb.out.lt, fun q u hu => by rw [Addr.add_lit, Nat.zero_add, Blk.cell HBb.out q]; simpa using hu⟩) (fun u hu => by simp only [List.mem_cons, List.not_mem_nil, or_false] at hu; rcases hu with rfl | rfl | rfl | rfl | rfl | rfl <;> rfl) (by omega) hb8.size (fun v9 w9 ho9 hg9 => ?_) AllReadyH.nil;have hb9 : Below W5.heap.size W5 w9 := hb8.grown hg9 hb8.size (fun q hq => (ho8.lt q hq).1);refine ⟨hb9, ?_⟩;simp only [Act.put, aQ, aZ, aC];obtain ⟨A9, c9, rfl, hvs9⟩ := vars_own ho9 (VRow.snoc hul (fun i hi => (hvrow i hi).keep (hb9.mono hBs)) (Hval5.out.below hb9));refine tk 10 11 (.slice A9 (nv + 1) c9) rfl hb9 ?_;refine wpAnyH_done (by kernel_rfl) ?_ _;(try simp only [Exit.then]);have HE9 := hid (HE5.out.below hb9 HE5.out.lt);have HT9 := hid (HT5.out.below hb9);have HTF9 := hid (HTF5.out.below hb9);have Hvq9 := hid (Hvq5.out.below hb9);have Hve9 := hid (Hve5.out.below hb9);have Hvs9 := hid hvs9;clear ho9 hg9 hb9 hvs9;obtain ⟨W9, rfl⟩ := xS w9;have k0 := (HE9.out.cell 0).trans rfl;have k1 := (HE9.out.cell 1).trans rfl;have k2 := (HE9.out.cell 2).trans rfl;have k3 := (HE9.out.cell 3).trans rfl;have k4 := (HE9.out.cell 4).trans rfl;have k5 := (HE9.out.cell 5).trans rfl;have k6 := (HE9.out.cell 6).trans rfl;have k7 := (HE9.out.cell 7).trans rfl;have k8 := (HE9.out.cell 8).trans rfl;have k9 := (HE9.out.cell 9).trans rfl;go_upto_region 13 with fail
   refine wp_region_lit ?_;refine mv (.pointer (some ⟨pt, 0, none⟩)) ?_;refine mv (.agg #[q0, q1, q2, q3, q4]) ?_;refine mv (.pointer (some ⟨pt, 5, none⟩)) ?_;refine mv (.agg #[e0, e1, e2, e3, e4]) ?_;clear k0 k1 k2 k3 k4 k5 k6 k7 k8 k9;refine mv (.slice A9 (nv + 1) c9) ?_;refine mv (.agg #[q0, q1, q2, q3, q4, e0, e1, e2, e3, e4, .slice A9 (nv + 1) c9]) ?_;refine stI [q0, q1, q2, q3, q4, e0, e1, e2, e3, e4, .slice A9 (nv + 1) c9] HE9.out rfl (one11 (vd_one Hvq9.out) (vd_one Hve9.out)) uEnv ?_;refine wpList_nil ?_;(try simp only [Exit.then]);have hbz : Below pt W9 (W9.setCells pt 0 [q0, q1, q2, q3, q4, e0, e1, e2, e3, e4, .slice A9 (nv + 1) c9]) := below_setCells _ (Nat.le_refl _);have hT13 := HT9.out.farC HE9.out rfl 0 [q0, q1, q2, q3, q4, e0, e1, e2, e3, e4, .slice A9 (nv + 1) c9];have hE13 := HE9.out.put (vs := [q0, q1, q2, q3, q4, e0, e1, e2, e3, e4, .slice A9 (nv + 1) c9]) rfl;have hF13 := HTF9.out.putC (g := pt) (by omega) 0 [q0, q1, q2, q3, q4, e0, e1, e2, e3, e4, .slice A9 (nv + 1) c9];have hBp : B <= pt := by omega
   have hvs13 : VarsV B A9 (nv + 1) (W9.setCells pt 0 [q0, q1, q2, q3, q4, e0, e1, e2, e3, e4, .slice A9 (nv + 1) c9]) := Hvs9.out.farC HE9.out (by decide) 0 _ (hbz.mono hBp);go_wp2_with fail
   go_roundw
   case rel => exact ⟨j + 1, t3, l1, hs1, q0, q1, q2, q3, q4, e0, e1, e2, e3, e4, A9, nv + 1, c9, by go_num, by omega, by rw [Hos.out, if_neg (by decide), Nat.add_zero]; exact hT13, by rw [Has.out, if_neg (by decide), Nat.add_zero]; exact Hhs.out, hF13, hE13, Hvq9.out.keep (hbz.mono hBp), Hve9.out.keep (hbz.mono hBp), hvs13, by omega⟩
   simp [intOf]; omega
  have hal : Below W6.heap.size W6 (W6.alloc (.cells #[.string nm, .int .i64 kr, .int .i64 mr, .string xr, .slice Alr nlr clr, .slice Akr nkr ckr] 124)) := alloc_below _ _;have HBb : Hid (Blk (W6.alloc (.cells #[.string nm, .int .i64 kr, .int .i64 mr, .string xr, .slice Alr nlr clr, .slice Akr nkr ckr] 124)) W6.heap.size 124 #[.string nm, .int .i64 kr, .int .i64 mr, .string xr, .slice Alr nlr clr, .slice Akr nkr ckr]) := hid (Blk.new _ _ _);have hb8 : Below W5.heap.size W5 (W6.alloc (.cells #[.string nm, .int .i64 kr, .int .i64 mr, .string xr, .slice Alr nlr clr, .slice Akr nkr ckr] 124)) := hHeld.trans (hal.mono hHeld.size);refine valH 8 (some 52) rfl rfl (by rfl) (.slice (some ⟨W6.heap.size, 0, none⟩) 1 1) (W6.alloc (.cells #[.string nm, .int .i64 kr, .int .i64 mr, .string xr, .slice Alr nlr clr, .slice Akr nkr ckr] 124)) (by go_simp) ?_ AllReadyH.nil;refine ⟨hb8, ?_⟩;simp only [Act.put, aQ, aZ, aC];obtain ⟨W6x, hWx⟩ := xE (W6.alloc (.cells #[.string nm, .int .i64 kr, .int .i64 mr, .string xr, .slice Alr nlr clr, .slice Akr nkr ckr] 124));obtain ⟨gb, hgb⟩ := xE W6.heap.size;rw [hWx] at HBb hb8 ⊢;rw [hgb] at HBb ⊢;clear hWx hgb hal;refine wpAnyH_ready (rs := [3]) (by kernel_rfl) (by simp) ?_;refine pushKH 3 (some 47) rfl rfl (by rfl) _ _ rfl Tryz.underlying97 info_Named (World.ownsRow_nil W6x W5.heap.size 124 6) rfl rfl hul (fun h0 => by
   obtain ⟨ad2, _, _, _, _, _, _, e2, ⟨_, _, hh2⟩, _⟩ := Hvs5.out 0 h0;have hl := heap_lt hh2;exact ⟨ad2, e2, Nat.lt_of_lt_of_le hl hb8.size, fun q u hu => (hb8.cell (p := ad2.add q) (by rw [block_of_add]; exact hl)).trans (hcell0 ad2 e2 q u hu)⟩) hone (by omega) hb8.size (fun v7 w7 ho7 hg7 => ?_) ?_
  ·obtain ⟨A7, c7, rfl⟩ := own_shape ho7;rw [Nat.zero_add] at ho7 ⊢;rw [List.nil_append] at ho7;have hbs7 : Below W6x.heap.size W6x w7 := ⟨hg7.os, hg7.tape, hg7.output, hg7.size, fun q hq => hg7.block q hq (by simp [Value.ownBlock])⟩
   have hb7 := hb8.trans (hbs7.mono hb8.size);refine ⟨hb7, ?_⟩;simp only [Act.put, aQ, aZ, aC];have HBb7 := hid (HBb.out.below hbs7 HBb.out.lt);refine wpAnyH_ready (rs := [9]) (by kernel_rfl) (by simp) ?_;refine pushKH 9 (some 53) rfl rfl (by rfl) _ _ rfl Tryz.underlying97 info_Named ho7 rfl rfl (us := [.string nm, .int .i64 kr, .int .i64 mr, .string xr, .slice Alr nlr clr, .slice Akr nkr ckr]) (k := 1) rfl (fun _ => ⟨⟨gb, 0, none⟩, rfl, HBb7.out.lt, fun q u hu => by rw [Addr.add_lit, Nat.zero_add, Blk.cell HBb7.out q]; simpa using hu⟩) (fun u hu => by simp only [List.mem_cons, List.not_mem_nil, or_false] at hu; rcases hu with rfl | rfl | rfl | rfl | rfl | rfl <;> rfl) (by omega) hb7.size (fun v9 w9 ho9 hg9 => ?_) AllReadyH.nil;have hb9 : Below W5.heap.size W5 w9 := hb7.grown hg9 hb7.size (fun q hq => (ho7.lt q hq).1);refine ⟨hb9, ?_⟩;simp only [Act.put, aQ, aZ, aC];obtain ⟨A9, c9, rfl, hvs9⟩ := vars_own ho9 (VRow.snoc hul (fun i hi => (hvrow i hi).keep (hb9.mono hBs)) (Hval5.out.below hb9));refine tk 10 11 (.slice A9 (nv + 1) c9) rfl hb9 ?_;refine wpAnyH_done (by kernel_rfl) ?_ _;(try simp only [Exit.then]);have HE9 := hid (HE5.out.below hb9 HE5.out.lt);have HT9 := hid (HT5.out.below hb9);have HTF9 := hid (HTF5.out.below hb9);have Hvq9 := hid (Hvq5.out.below hb9);have Hve9 := hid (Hve5.out.below hb9);have Hvs9 := hid hvs9;clear ho9 hg9 hb9 hvs9;obtain ⟨W9, rfl⟩ := xS w9;have k0 := (HE9.out.cell 0).trans rfl;have k1 := (HE9.out.cell 1).trans rfl;have k2 := (HE9.out.cell 2).trans rfl;have k3 := (HE9.out.cell 3).trans rfl;have k4 := (HE9.out.cell 4).trans rfl;have k5 := (HE9.out.cell 5).trans rfl;have k6 := (HE9.out.cell 6).trans rfl;have k7 := (HE9.out.cell 7).trans rfl;have k8 := (HE9.out.cell 8).trans rfl;have k9 := (HE9.out.cell 9).trans rfl;go_upto_region 13 with fail
   refine wp_region_lit ?_;refine mv (.pointer (some ⟨pt, 0, none⟩)) ?_;refine mv (.agg #[q0, q1, q2, q3, q4]) ?_;refine mv (.pointer (some ⟨pt, 5, none⟩)) ?_;refine mv (.agg #[e0, e1, e2, e3, e4]) ?_;clear k0 k1 k2 k3 k4 k5 k6 k7 k8 k9;refine mv (.slice A9 (nv + 1) c9) ?_;refine mv (.agg #[q0, q1, q2, q3, q4, e0, e1, e2, e3, e4, .slice A9 (nv + 1) c9]) ?_;refine stI [q0, q1, q2, q3, q4, e0, e1, e2, e3, e4, .slice A9 (nv + 1) c9] HE9.out rfl (one11 (vd_one Hvq9.out) (vd_one Hve9.out)) uEnv ?_;refine wpList_nil ?_;(try simp only [Exit.then]);have hbz : Below pt W9 (W9.setCells pt 0 [q0, q1, q2, q3, q4, e0, e1, e2, e3, e4, .slice A9 (nv + 1) c9]) := below_setCells _ (Nat.le_refl _);have hT13 := HT9.out.farC HE9.out rfl 0 [q0, q1, q2, q3, q4, e0, e1, e2, e3, e4, .slice A9 (nv + 1) c9];have hE13 := HE9.out.put (vs := [q0, q1, q2, q3, q4, e0, e1, e2, e3, e4, .slice A9 (nv + 1) c9]) rfl;have hF13 := HTF9.out.putC (g := pt) (by omega) 0 [q0, q1, q2, q3, q4, e0, e1, e2, e3, e4, .slice A9 (nv + 1) c9];have hBp : B <= pt := by omega
   have hvs13 : VarsV B A9 (nv + 1) (W9.setCells pt 0 [q0, q1, q2, q3, q4, e0, e1, e2, e3, e4, .slice A9 (nv + 1) c9]) := Hvs9.out.farC HE9.out (by decide) 0 _ (hbz.mono hBp);go_wp2_with fail
   go_roundw
   case rel => exact ⟨j + 1, t3, l1, hs1, q0, q1, q2, q3, q4, e0, e1, e2, e3, e4, A9, nv + 1, c9, by go_num, by omega, by rw [Hos.out, if_neg (by decide), Nat.add_zero]; exact hT13, by rw [Has.out, if_neg (by decide), Nat.add_zero]; exact Hhs.out, hF13, hE13, Hvq9.out.keep (hbz.mono hBp), Hve9.out.keep (hbz.mono hBp), hvs13, by omega⟩
   simp [intOf]; omega
  exact AllReadyH.nil
 have hli : ¬ ((j : Int) < (n : Int)) := by omega
 clear hlt
 obtain rfl : j = n := by omega
 have hfull : fs.take j = fs := List.take_of_length_le (by have := Hn.out; omega)
 go_upto_region 16 with fail
 refine wp_region_lit ?_
 refine mv (.bool true) ?_
 refine xn ?_
 refine bodyPost_ret (results_tmp rfl _ _ _) rfl ?_
 exact ⟨true, rfl, fun _ => ⟨t1, l1, hs1, by have := HT1.out; rw [hfull] at this; exact this, by have := Hhs.out; rw [hfull] at this; exact this⟩, fun h => absurd h (by decide), HTF.out⟩
end Go.Proofs.YtkcnmjdomipbjaaGreat
