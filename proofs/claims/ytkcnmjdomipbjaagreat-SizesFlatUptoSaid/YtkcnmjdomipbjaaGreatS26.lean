import Derived.Deep.Cut
import Derived.Deep.CutRange
import Derived.Deep.CutBlock
import Derived.Deep.QuietTactic
import Derived.BigQuiet
import Derived.Deep.RegionHeld3
import Derived.Deep.MidRow
import Derived.Deep.RegionHeld
import Derived.Test.YtkcnmjdomipbjaaGreatS24
import Derived.Test.YtkcnmjdomipbjaaGreatS25
set_option linter.unusedVariables false
set_option maxHeartbeats 100000000
set_option maxRecDepth 100000
namespace Go.Proofs.YtkcnmjdomipbjaaGreat
open Go.RowKit
theorem call_cells {b0 lo : Nat} {w : World} {c : Ca} {va : Value} (h : DtN b0 lo w va (.rows 5 (c.args.map Ar.row))) : CellsV w (SD b0 lo w) [.string c.nm, va] c.row := ⟨_, _, rfl, DtV.str, _, _, rfl, h, rfl⟩
def PPipe (w : World) (e : Ending) (w' : World) : Prop := ∃ (v : Value) (cs : List Ca) (p er : Int), e = .returned (.tuple #[v, .int .i64 p, .int .i64 er]) /\ DtN 0 w.heap.size w' v (.rows 2 (cs.map Ca.row)) /\ (∀ c ∈ cs, CaOk c) /\ cs.length <= 16 /\ Below w.heap.size w w'
section
variable {w : World} {S : Nat -> Prop} {sz : Nat}
theorem RowsV.drop_ {A : Option Addr} : ∀ {l : List (List Dt)} {i : Nat}, RowsV w S sz A i l -> ∀ a, RowsV w S sz A (i + a) (l.drop a)
 | l, i, h, 0 => h
 | [], i, h, a + 1 => by rw [List.drop_nil]; unfold RowsV; trivial
 | r :: t, i, h, a + 1 => by
  unfold RowsV at h;have := RowsV.drop_ h.2 a;rw [List.drop_succ_cons, show i + (a + 1) = i + 1 + a by omega]; exact this
theorem RowsV.take_ {A : Option Addr} : ∀ {l : List (List Dt)} {i : Nat}, RowsV w S sz A i l -> ∀ a, RowsV w S sz A i (l.take a)
 | l, i, h, 0 => by rw [List.take_zero]; unfold RowsV; trivial
 | [], i, h, a + 1 => by rw [List.take_nil]; unfold RowsV; trivial
 | r :: t, i, h, a + 1 => by
  unfold RowsV at h;rw [List.take_succ_cons];unfold RowsV;exact ⟨h.1, RowsV.take_ h.2 a⟩
theorem RowsV.shift {ad : Addr} {a : Nat} : ∀ {l : List (List Dt)} {i : Nat}, RowsV w S sz (some ad) (i + a) l -> RowsV w S sz (some (ad.add (a * sz))) i l
 | [], _, _ => by unfold RowsV; trivial
 | r :: t, i, h => by
  unfold RowsV at h ⊢;obtain ⟨⟨ad', e, hb, hl, hr⟩, ht⟩ := h;cases e;refine ⟨⟨_, rfl, by rw [block_of_add]; exact hb, hl, ?_⟩, RowsV.shift (by rw [show i + 1 + a = i + a + 1 by omega]; exact ht)⟩;rw [add_of_add, <- Nat.add_mul, Nat.add_comm a i]; exact hr
theorem RowsV.slice {α : Type} {f : α -> List Dt} {ad : Addr} {l : List α} (h : RowsV w S sz (some ad) 0 (l.map f)) (a b : Nat) : RowsV w S sz (some (ad.add (a * sz))) 0 (((l.drop a).take b).map f) := by
 rw [List.map_take, List.map_drop]
 exact RowsV.take_ (RowsV.shift (RowsV.drop_ h a)) b
end
theorem pparse_any {S : Nat -> Prop} (l : List It) (n : Nat) (hn : l.length = n) (hn2 : n <= 1048576) (A : Option Addr) (c : Nat) (hc : n <= c) (at_ : Int) (w : World) (hl : ∀ i ∈ l, WdOk i) (hr : RowsV w S 3 A 0 (l.map It.row)) : Calls Tryz.prog 73 #[.slice A n c, .int .i64 at_] w (PPipe w) := by
 have HC := hid (fun l n hn h1 hn2 A c ahead W hl hr => call_any (S := S) l n hn h1 hn2 A c ahead W hl hr)
 have Hl := hid hl
 have Hr := hid hr
 have Hn := hid hn
 rcases Nat.eq_zero_or_pos n with h0 | h0
 ·subst h0;go_enter Tryz.func73, Tryz.ntmps73;go_wp2_with fail
  go_ret3
  exact ⟨_, [], _, _, rfl, DtV.none_, (fun _ h => by cases h), Nat.zero_le _, Below.refl _ _⟩
 have hl0 : 0 < l.length := by omega
 obtain ⟨ad, rfl, _, hadl, hrow0⟩ := RowsV.get hr hl0
 clear hrow0
 have hn0 : ((n : Int) == 0) = false := beq_eq_false_iff_ne.2 (by omega)
 clear hl hr hn hl0
 go_enter Tryz.func73, Tryz.ntmps73
 go_wp2_with fail
 clear hn0
 go_loopw [7, 8] (fun v i wr => ∃ (k : Nat) (cs : List Ca), k < n /\ i = .int .i64 (k : Int) /\ cs.length <= 16 /\ (∀ c ∈ cs, CaOk c) /\ OwnN 0 w.heap.size wr w.heap.size 135 2 v (cs.map Ca.row) /\ Below w.heap.size w wr) (fun _ i _ => n - (intOf i).toNat)
 case atStart => exact ⟨0, [], h0, rfl, Nat.zero_le _, (fun _ h => by cases h), OwnN.nil, Below.refl _ _⟩
 obtain ⟨k, cs, hk, rfl, hcl, hcs, hO, hb⟩ := hrel
 have HO := hid hO
 have Hcs := hid hcs
 have Hb := hid hb
 obtain ⟨Av, cv, rfl⟩ := hO.shape (n := cs.length) (by simp)
 clear hO hcs hb
 obtain ⟨W0, rfl⟩ := xS wr
 go_upto_block 2 with fail
 go_cut [9] from 17 to 92 (fun i wx => ∃ m : Nat, k <= m /\ m <= n /\ i = .int .i64 (m : Int) /\ wx = W0)
 case first =>
  go_wp2_with fail
  go_loop [9] (fun i => ∃ m : Nat, k <= m /\ m <= n /\ i = .int .i64 (m : Int)) (fun i => n - (intOf i).toNat)
  case atStart => exact ⟨k, Nat.le_refl _, Nat.le_of_lt hk, rfl⟩
  obtain ⟨m, hm, hmn, rfl⟩ := hrel;by_cases hlt : m < n
  ·have hli : (m : Int) < n := by omega
   have hjl : m < l.length := by have := Hn.out; omega
   obtain ⟨ad', hAd, _, _, hrow⟩ := RowsV.get (RowsV.below Hr.out Hb.out) hjl;cases hAd;obtain ⟨p1, hp1⟩ := xE l[m];rw [hp1] at hrow;obtain ⟨k1, x1, pl1⟩ := p1;obtain ⟨i0, i1, i2⟩ := It.at_ hrow;simp only at i0 i1 i2;clear hrow hp1 hjl;obtain ⟨q6, hq6⟩ := xE (k1 != 6);clear i1 i2;cases q6
   ·go_wp2_with fail
    go_meet;exact ⟨m, hm, hmn, rfl, rfl⟩
   go_wp2_with fail
   go_round
   case rel => exact ⟨m + 1, by omega, by omega, by go_num⟩
   simp [intOf]; omega
  have hlf : ¬ ((m : Int) < n) := by omega
  go_wp2_with fail
  go_meet;exact ⟨m, hm, hmn, rfl, rfl⟩
 obtain ⟨m, hm, hmn, rfl, hwc⟩ := hcut
 obtain rfl := hwc
 by_cases hmk : m = k
 ·subst hmk;have hjl : m < l.length := by have := Hn.out; omega
  obtain ⟨ad', hAd, _, _, hrow⟩ := RowsV.get (RowsV.below Hr.out Hb.out) hjl;cases hAd;obtain ⟨p1, hp1⟩ := xE l[m];rw [hp1] at hrow;obtain ⟨k1, x1, pl1⟩ := p1;obtain ⟨i0, i1, i2⟩ := It.at_ hrow;simp only at i0 i1 i2;clear hrow hp1 hjl;clear i0 i1;go_upto_region 9 with fail
  go_big_quiet (fail)
  go_wp2_with fail
  go_ret3
  exact ⟨_, [], _, _, rfl, DtV.none_, (fun _ h => by cases h), Nat.zero_le _, below_drewN Hb.out _⟩
 have hmk1 : ((m : Int) == (k : Int)) = false := beq_eq_false_iff_ne.2 (by omega)
 have hkm : (k : Int) <= (m : Int) := by omega
 have hmni : (m : Int) <= (n : Int) := by omega
 have hmc : (m : Int) <= (c : Int) := by omega
 have HC1 := hid (fun ahead => HC.out ((l.drop k).take (m - k)) (m - k) (by rw [List.length_take, List.length_drop, Hn.out]; omega) (by omega) (by omega) (some (ad.add (k * 3))) (c - k) ahead wc (fun i hi => Hl.out i (List.mem_of_mem_drop (List.mem_of_mem_take hi))) (RowsV.slice (RowsV.below Hr.out Hb.out) k (m - k)))
 go_upto_region 11 with (go_at_call 98; refine (HC1.out _).mono ?_; rintro e w3 ⟨ca, va, pl, er, rfl, hd, hok, hb3⟩; obtain ⟨nca, hnca⟩ := xE ca.args.length; obtain ⟨Ac, cc, rfl, _⟩ := DtV.slice hd (n := nca) (by rw [List.length_map]; exact hnca))
 obtain ⟨w5, hw5⟩ := xE (w3.alloc (.cells #[.string ca.nm, .slice Ac nca cc] 135))
 have hbb5 : Below wc.heap.size wc w5 := by rw [<- hw5]; exact hb3.trans ((alloc_below w3 _).mono hb3.size)
 have HX5 : Hid (Blk w5 w3.heap.size 135 #[.string ca.nm, .slice Ac nca cc]) := hid (by rw [<- hw5]; exact Blk.new w3 _ _)
 have HD5 : Hid (DtN 0 wc.heap.size w5 (.slice Ac nca cc) (.rows 5 (ca.args.map Ar.row))) := hid (by rw [<- hw5]; exact DtN.below hd (alloc_below _ _))
 have HO5 := hid (OwnN.below HO.out hbb5)
 have Hb5 := hid (Hb.out.trans (hbb5.mono Hb.out.size))
 have Hlo := hid HO.out.lt
 have Hok := hid hok
 have hsb := Hb.out.size
 have hs5 := Hb5.out.size
 rw [hw5]
 clear hw5 hbb5 hb3 HC1 HO hd hok hkm hmni hmc
 obtain ⟨g5, hg5⟩ := xE w3.heap.size
 rw [hg5] at HX5 ⊢
 clear hg5
 obtain ⟨q, hq⟩ := xE (er != 0)
 cases q
 ·by_cases h16 : cs.length = 16
  ·have h16i : ((cs.length : Int) == 16) = true := by rw [h16]; rfl
   have hjl : k < l.length := by have := Hn.out; omega
   obtain ⟨ad', hAd, _, _, hrow⟩ := RowsV.get (RowsV.below Hr.out Hb5.out) hjl;cases hAd;obtain ⟨p1, hp1⟩ := xE l[k];rw [hp1] at hrow;obtain ⟨k1, x1, pl1⟩ := p1;obtain ⟨i0, i1, i2⟩ := It.at_ hrow;simp only at i0 i1 i2;clear hrow hp1 hjl;clear i0 i1;go_upto_region 14 with fail
   go_big_quiet (fail)
   go_wp2_with fail
   go_ret3
   exact ⟨_, [], _, _, rfl, DtV.none_, (fun _ h => by cases h), Nat.zero_le _, below_drewN Hb5.out _⟩
  have h16i : ((cs.length : Int) == 16) = false := beq_eq_false_iff_ne.2 (by omega);obtain ⟨⟨e0, e1⟩, _⟩ := blk2_cells HX5.out;go_upto_region 16 with (at_builtin; refine wpl_pushX rfl _ _ rfl Tryz.underlying50 info_Call HO5.out rfl (us := [.string ca.nm, .slice Ac nca cc]) (r := ca.row) (CellsV.fresh (call_cells HD5.out) hsb (fun g hg => ⟨Nat.zero_le _, (Hlo.out g hg).2⟩)) rfl rfl (by rw [List.length_map]; omega) hs5 ?_; intro v1 w6 hO6 hb6 _ _; rw [<- List.map_singleton (f := Ca.row), <- List.map_append] at hO6; obtain ⟨A1, cv1, rfl⟩ := hO6.shape (n := cs.length + 1) (by simp); have HO6 := hid hO6; have Hb6 := hid (Hb5.out.trans hb6); clear hO6 hb6 e0 e1)
  have HX := hid (allSnoc Hcs.out Hok.out);clear HO5 HD5 HX5 Hb5 h16i;by_cases hmn1 : m = n
  ·have hmni : ((m : Int) == (n : Int)) = true := by rw [hmn1]; simp
   go_wp2_with fail
   go_ret3
   exact ⟨_, cs ++ [ca], _, _, rfl, OwnN.dt HO6.out rfl (Nat.le_refl _), HX.out, by simp; omega, Hb6.out⟩
  have hmni : ((m : Int) == (n : Int)) = false := beq_eq_false_iff_ne.2 (by omega);have hmli : (m : Int) < (n : Int) := by omega
  have hjl : m < l.length := by have := Hn.out; omega
  obtain ⟨ad', hAd, _, _, hrow⟩ := RowsV.get (RowsV.below Hr.out Hb6.out) hjl;cases hAd;obtain ⟨p1, hp1⟩ := xE l[m];rw [hp1] at hrow;obtain ⟨k1, x1, pl1⟩ := p1;obtain ⟨i0, i1, i2⟩ := It.at_ hrow;simp only at i0 i1 i2;clear hrow hp1 hjl;obtain ⟨q7, hq7⟩ := xE (x1.toList == [124]);cases q7
  ·go_upto_region 19 with fail
   clear i0 i1;go_big_quiet (fail)
   go_wp2_with fail
   go_ret3
   exact ⟨_, [], _, _, rfl, DtV.none_, (fun _ h => by cases h), Nat.zero_le _, below_drewN Hb6.out _⟩
  clear i0 i2;by_cases hmn2 : m + 1 = n
  ·have hmn2i : ((m : Int) + 1 == (n : Int)) = true := by rw [<- hmn2]; simp
   go_wp2_with fail
   go_ret3
   exact ⟨_, [], _, _, rfl, DtV.none_, (fun _ h => by cases h), Nat.zero_le _, Hb6.out⟩
  have hmn2i : ((m : Int) + 1 == (n : Int)) = false := beq_eq_false_iff_ne.2 (by omega);go_wp2_with fail
  go_roundw
  case rel => exact ⟨m + 1, cs ++ [ca], by omega, by go_num, by simp; omega, HX.out, HO6.out, Hb6.out⟩
  simp [intOf]; omega
 go_wp2_with fail
 go_ret3
 exact ⟨_, [], _, _, rfl, DtV.none_, (fun _ h => by cases h), Nat.zero_le _, Hb5.out⟩
def XQ (t : TypeId) : Bool := t == 77
def XP (t : TypeId) : Bool := t == 77 || t == 75
theorem XD_XQ : XD XQ := fun t h => by
 simp only [dT, Bool.or_eq_true, beq_iff_eq] at h
 rcases h with (((((h | h) | h) | h) | h) | h) | h <;> subst h <;> rfl
theorem XD_XP : XD XP := fun t h => by
 simp only [dT, Bool.or_eq_true, beq_iff_eq] at h
 rcases h with (((((h | h) | h) | h) | h) | h) | h <;> subst h <;> rfl
theorem TF.more {X Y : TypeId -> Bool} {base : Nat} {w w' : World} (h : TF X base w w') (hXY : ∀ t, Y t = false -> X t = false) : TF Y base w w' :=
 ⟨h.os, h.tape, h.output, h.size, fun b hb hc => h.block b hb (by
  rcases hc with hc | ⟨cs, t, fr, h1, h2⟩
  ·exact .inl hc
  exact .inr ⟨cs, t, fr, h1, hXY t h2⟩)⟩
theorem TF.xp {base : Nat} {w w' : World} (h : TF XQ base w w') : TF XP base w w' := h.more fun t ht => by
 simp only [XP, Bool.or_eq_false_iff] at ht
 exact ht.1
def PBk (pb : Nat) (its : List It) (sz : Nat) (vd : Value) (AL : Option Addr) (cL : Nat) (len at_ er : Int) (w : World) : Prop :=
 Blk w pb 77 #[.slice AL its.length cL, .int .i64 (sz : Int), .int .i64 len, vd, .int .i64 at_, .int .i64 er]
def PIn (base pb : Nat) (its : List It) (sz : Nat) (vd : Value) (AL : Option Addr) (cL : Nat) (w : World) : Prop :=
 ∃ len at_ er, PBk pb its sz vd AL cL len at_ er w /\ base <= pb
theorem PBk.tf {base pb : Nat} {its : List It} {sz : Nat} {vd : Value} {AL : Option Addr} {cL : Nat} {len at_ er : Int} {w : World} (h : PBk pb its sz vd AL cL len at_ er w) (hb : base <= pb) {i : Nat} (u : Value) : TF XQ base w (w.setCell ⟨pb, i, none⟩ u) :=
 TF.refl.setCell (p := ⟨pb, i, none⟩) (.inr ⟨hb, _, _, _, h, rfl⟩) u
theorem PIn.below {base pb : Nat} {its : List It} {sz : Nat} {vd : Value} {AL : Option Addr} {cL : Nat} {w w' : World} (h : PIn base pb its sz vd AL cL w) (hb : Below w.heap.size w w') : PIn base pb its sz vd AL cL w' := by
 obtain ⟨len, at_, er, h1, h2⟩ := h
 exact ⟨len, at_, er, Blk.below h1 hb h1.lt, h2⟩
def PFl (base pb : Nat) (its : List It) (sz : Nat) (vd : Value) (AL : Option Addr) (cL : Nat) (w : World) (e : Ending) (w' : World) : Prop := e = .returned (.bool false) /\ PIn base pb its sz vd AL cL w' /\ TF XQ base w w'
theorem fail20_any (base pb : Nat) (its : List It) (sz : Nat) (vd : Value) (AL : Option Addr) (cL : Nat) (a b : Int) (w : World) (h : PIn base pb its sz vd AL cL w) : Calls Tryz.prog 42 #[.pointer (some ⟨pb, 0, none⟩), .int .i64 a, .int .i64 b] w (PFl base pb its sz vd AL cL w) := by
 obtain ⟨len, at_, er, h1, h2⟩ := h
 have H := hid h1
 have hlt := Blk.lt h1
 obtain ⟨nL, hnL⟩ := xE its.length
 have HnL := hid hnL
 unfold PBk at h1
 rw [hnL] at h1
 have c5 := (h1.cell 5).trans rfl
 have c4 := (h1.cell 4).trans rfl
 have f4 := h1.frozen 4
 have f5 := h1.frozen 5
 clear h1 hnL
 obtain ⟨q, hq⟩ := xE (er == 0)
 go_enter Tryz.func42, Tryz.ntmps42
 cases q
 ·go_wp2_with fail
  go_ret;exact ⟨rfl, ⟨len, at_, er, H.out, h2⟩, TF.refl⟩
 go_wp2_with fail
 go_ret
 have e1 : PBk pb its sz vd AL cL len a b ((w.setCell ⟨pb, 4, none⟩ (.int .i64 a)).setCell ⟨pb, 5, none⟩ (.int .i64 b)) := by
  have := (Blk.set_ (Blk.set_ H.out 4 (.int .i64 a)) 5 (.int .i64 b))
  simp only [List.setIfInBounds_toArray, List.set_cons_zero, List.set_cons_succ] at this;exact this
 have t1 : TF XQ base w ((w.setCell ⟨pb, 4, none⟩ (.int .i64 a)).setCell ⟨pb, 5, none⟩ (.int .i64 b)) :=
  (PBk.tf H.out h2 _).setCell (p := ⟨pb, 5, none⟩) (.inr ⟨h2, _, _, _, Blk.set_ H.out 4 (.int .i64 a), rfl⟩) _
 exact ⟨rfl, ⟨_, _, _, e1, h2⟩, t1⟩
def PCt (base pb : Nat) (its : List It) (sz : Nat) (vd : Value) (AL : Option Addr) (cL : Nat) (w : World) (e : Ending) (w' : World) : Prop := ∃ b : Bool, e = .returned (.bool b) /\ PIn base pb its (if b = true then sz + 1 else sz) vd AL cL w' /\ (b = true -> sz + 1 <= 1024) /\ TF XQ base w w'
theorem count20_any (base pb : Nat) (its : List It) (sz : Nat) (vd : Value) (AL : Option Addr) (cL : Nat) (a : Int) (w : World) (h : PIn base pb its sz vd AL cL w) (hsz : sz <= 1024) : Calls Tryz.prog 40 #[.pointer (some ⟨pb, 0, none⟩), .int .i64 a] w (PCt base pb its sz vd AL cL w) := by
 have HF := hid (fail20_any base pb its sz vd AL cL a 3 w h)
 obtain ⟨len, at_, er, h1, h2⟩ := h
 have H := hid h1
 have hlt := Blk.lt h1
 obtain ⟨nL, hnL⟩ := xE its.length
 have HnL := hid hnL
 unfold PBk at h1
 rw [hnL] at h1
 have c1 := (h1.cell 1).trans rfl
 have f1 := h1.frozen 1
 clear h1 hnL
 by_cases hq : sz = 1024
 ·have hqi : ((sz : Int) == 1024) = true := by rw [hq]; rfl
  go_enter Tryz.func40, Tryz.ntmps40;go_wp2_with fail
  refine HF.out.mono ?_;rintro e w1 ⟨rfl, hp, ht⟩;go_wp2_with fail
  go_ret;exact ⟨false, rfl, hp, (fun h => by cases h), ht⟩
 have hqi : ((sz : Int) == 1024) = false := beq_eq_false_iff_ne.2 (by omega)
 go_enter Tryz.func40, Tryz.ntmps40
 go_wp2_with fail
 go_ret
 have e1 : PBk pb its (sz + 1) vd AL cL len at_ er (w.setCell ⟨pb, 1, none⟩ (.int .i64 ((sz : Int) + 1))) := by
  have := Blk.set_ H.out 1 (.int .i64 ((sz : Int) + 1));simp only [List.setIfInBounds_toArray, List.set_cons_zero, List.set_cons_succ] at this;exact this
 have t1 := PBk.tf H.out h2 (i := 1) (.int .i64 ((sz : Int) + 1))
 exact ⟨true, rfl, ⟨_, _, _, e1, h2⟩, (fun _ => by omega), t1⟩
structure Pw where
 ws : List It
 hd : ByteArray
 pl : Int
def PwAt (base : Nat) (pw : Pw) (A : Option Addr) (c : Nat) (w : World) : Prop := RowsN 0 base w 3 A (pw.ws.map It.row) /\ (∀ i ∈ pw.ws, WdOk i) /\ pw.ws.length <= c /\ pw.ws.length <= 1048576
theorem PwAt.below {base : Nat} {pw : Pw} {A : Option Addr} {c : Nat} {w w' : World} (h : PwAt base pw A c w) (hb : Below w.heap.size w w') : PwAt base pw A c w' := ⟨h.1.below hb, h.2⟩
theorem PwAt.tf {X : TypeId -> Bool} {base : Nat} {pw : Pw} {A : Option Addr} {c : Nat} {w w' : World} (h : PwAt base pw A c w) (hb : TF X base w w') (hX : XD X) : PwAt base pw A c w' := ⟨h.1.tf hb hX (Nat.zero_le _), h.2⟩
def PCd (base pb : Nat) (its : List It) (sz : Nat) (vd : Value) (AL : Option Addr) (cL : Nat) (pw : Pw) (w : World) (e : Ending) (w' : World) : Prop := ∃ (x : ByteArray) (b : Bool), e = .returned (.tuple #[.string x, .bool b]) /\ (b = true -> x.size <= 1048576 /\ 2 <= pw.ws.length) /\ PIn base pb its sz vd AL cL w' /\ TF XQ base w w'
theorem called_any (base pb : Nat) (its : List It) (sz : Nat) (vd : Value) (AL : Option Addr) (cL : Nat) (pw : Pw) (n : Nat) (hn : pw.ws.length = n) (A : Option Addr) (c : Nat) (w : World) (h : PIn base pb its sz vd AL cL w) (hw : PwAt base pw A c w) : Calls Tryz.prog 57 #[.pointer (some ⟨pb, 0, none⟩), .agg #[.slice A n c, .string pw.hd, .int .i64 pw.pl]] w (PCd base pb its sz vd AL cL pw w) := by
 obtain ⟨ws, hd, pl⟩ := pw
 simp only at hn ⊢
 have HN := hid (fun s hs W => name_any s W hs)
 obtain ⟨W, hW⟩ := xE (w.alloc (.cells #[.slice A n c, .string hd, .int .i64 pl] 80))
 have HS : Hid (Blk W w.heap.size 80 #[.slice A n c, .string hd, .int .i64 pl]) := hid (by rw [<- hW]; exact Blk.new w _ _)
 have hbw : Below w.heap.size w W := by rw [<- hW]; go_grown
 have HbW := hid hbw
 have HP := hid (h.below hbw)
 have HF := hid (fun a b => fail20_any base pb its sz vd AL cL a b W HP.out)
 have HW := hid (hw.below hbw)
 have Hn := hid hn
 obtain ⟨pt, hpt⟩ := xE w.heap.size
 rw [hpt] at HS
 obtain ⟨⟨c0, c1, c2⟩, f0, f1, f2⟩ := blk3_cells HS.out
 clear h hw hn hbw
 go_enter Tryz.func57, Tryz.ntmps57
 by_cases hn2 : n < 2
 ·have hn2i : (n : Int) < 2 := by omega
  go_wp2_with (go_at_call 42; refine (HF.out _ _).mono ?_; rintro e w1 ⟨rfl, hp, ht⟩)
  go_ret2;exact ⟨_, false, rfl, (fun h => by cases h), hp, (TF.of_below HbW.out).trans ht⟩
 have hn2i : ¬ ((n : Int) < 2) := by omega
 have hn2j : (1 : Int) < (n : Int) := by omega
 have h1l : 1 < ws.length := by have := Hn.out; omega
 obtain ⟨ad, rfl, _, _, hrow⟩ := RowsV.get HW.out.1 h1l
 have hok := HW.out.2.1 _ (List.getElem_mem h1l)
 obtain ⟨p1, hp1⟩ := xE ws[1]
 rw [hp1] at hrow hok
 obtain ⟨k1, x1, pl1⟩ := p1
 obtain ⟨i0, i1, i2⟩ := It.at_ hrow
 simp only at i0 i1 i2
 have hx1 : x1.size <= 1048576 := hok.1
 have HN1 := hid (HN.out x1 (by omega))
 have e0 : W.cell? ⟨ad.block, ad.off + 3, none⟩ = some (.int .i64 k1) := by simpa [Addr.add, Nat.add_assoc] using i0
 have e1 : W.cell? ⟨ad.block, ad.off + 3 + 1, none⟩ = some (.string x1) := by simpa [Addr.add, Nat.add_assoc] using i1
 have e2 : W.cell? ⟨ad.block, ad.off + 4, none⟩ = some (.string x1) := by simpa [Addr.add, Nat.add_assoc] using i1
 simp only [Nat.one_mul] at i0 i1 i2
 clear hrow hp1 hok i2
 obtain ⟨q5, hq5⟩ := xE (k1 != 5)
 go_wp2_with (first
  | (go_at_call 42; refine (HF.out _ _).mono ?_; rintro e w1 ⟨rfl, hp, ht⟩)
  | (go_at_call 51; refine (HN1.out _).mono ?_; rintro e w2 ⟨bb, rfl, hw⟩; obtain rfl := hw))
 all_goals (
  go_ret2
  first
   | exact ⟨_, false, rfl, (fun h => by cases h), hp, (TF.of_below HbW.out).trans ht⟩
   | exact ⟨_, true, rfl, (fun _ => ⟨hx1, by show 2 <= ws.length; omega⟩), HP.out, TF.of_below HbW.out⟩)
def PPp (base pb : Nat) (its : List It) (sz : Nat) (vd : Value) (AL : Option Addr) (cL : Nat) (w : World) (e : Ending) (w' : World) : Prop := ∃ (v : Value) (cs : List Ca) (b : Bool), e = .returned (.tuple #[v, .bool b]) /\ DtN 0 w.heap.size w' v (.rows 2 (cs.map Ca.row)) /\ (∀ c ∈ cs, CaOk c) /\ cs.length <= 16 /\ PIn base pb its sz vd AL cL w' /\ TF XQ base w w'
theorem pipe20_any (base pb : Nat) (its : List It) (sz : Nat) (vd : Value) (AL : Option Addr) (cL : Nat) (pw : Pw) (n : Nat) (hn : pw.ws.length = n) (A : Option Addr) (c : Nat) (k : Nat) (hk : k <= n) (w : World) (h : PIn base pb its sz vd AL cL w) (hw : PwAt base pw A c w) (hA : A ≠ none) : Calls Tryz.prog 58 #[.pointer (some ⟨pb, 0, none⟩), .agg #[.slice A n c, .string pw.hd, .int .i64 pw.pl], .int .i64 (k : Int)] w (PPp base pb its sz vd AL cL w) := by
 obtain ⟨ad, rfl⟩ : ∃ ad, A = some ad := by cases A with | none => exact absurd rfl hA | some a => exact ⟨a, rfl⟩
 obtain ⟨ws, hd, pl⟩ := pw
 simp only at hn ⊢
 obtain ⟨W, hW⟩ := xE (w.alloc (.cells #[.slice (some ad) n c, .string hd, .int .i64 pl] 80))
 have HS : Hid (Blk W w.heap.size 80 #[.slice (some ad) n c, .string hd, .int .i64 pl]) := hid (by rw [<- hW]; exact Blk.new w _ _)
 have hbw : Below w.heap.size w W := by rw [<- hW]; go_grown
 have HbW := hid hbw
 have HP := hid (h.below hbw)
 have hw2 := hw.below hbw
 have hc : n <= c := by rw [<- hn]; exact hw.2.2.1
 have hz : n <= 1048576 := by rw [<- hn]; exact hw.2.2.2
 by_cases hck : c = k
 ·obtain rfl : n = k := by omega
  subst hck;have HCd := hid (pparse_any (S := SD 0 base W) [] 0 rfl (by omega) (some ad) 0 (Nat.le_refl _) pl W.drew (fun i hi => by cases hi) (by unfold List.map RowsV; trivial));clear h hw hw2 hn hbw;obtain ⟨pt, hpt⟩ := xE w.heap.size;rw [hpt] at HS;have hlt := HS.out.lt;obtain ⟨⟨c0, c1, c2⟩, f0, f1, f2⟩ := blk3_cells HS.out;have HF := hid (fun a b Wx hp => fail20_any base pb its sz vd AL cL a b Wx hp);go_enter Tryz.func58, Tryz.ntmps58;go_upto_region 1 with fail
  clear hW
  go_region_held3 (fun w' => w'.cell? ⟨pt, 0, none⟩ = some (.slice (some ad) c c) /\ w'.cell? ⟨pt, 2, none⟩ = some (.int .i64 pl) /\ Below W.heap.size W w' /\ pt < w'.heap.size)
   (first
    | exact ⟨c0, c2, (Below.refl _ _).drew, hlt⟩
    | exact ⟨(Below.cell (p := ⟨pt, 0, none⟩) hbk hlt).trans c0, (Below.cell (p := ⟨pt, 2, none⟩) hbk hlt).trans c2, (Below.refl _ _).drew.trans hbk, Nat.lt_of_lt_of_le hlt hbk.size⟩
    | go_keep)
   (first
    | (go_at_call 73; refine HCd.out.mono ?_; rintro e w1 ⟨v, cs, p1, er, rfl, hd, hok, hl, hbk⟩))
  all_goals (
   go_split_ands
   have hb1 : Below W.heap.size W w1 := by assumption
   have HP1 := hid (HP.out.below hb1);have Hok := hid hok;have HD := hid hd;have hbw1 : Below w.heap.size w w1 := HbW.out.trans (hb1.mono HbW.out.size);have Hbw1 := hid hbw1;clear hok hd hbw1;go_wp2_with (go_at_call 42; refine (HF.out _ _ _ HP1.out).mono ?_; rintro e w3 ⟨rfl, hp, ht⟩)
   all_goals (
    go_ret2
    first
     | exact ⟨_, [], false, rfl, DtV.none_, (fun _ h => by cases h), Nat.zero_le _, hp, (TF.of_below Hbw1.out).trans ht⟩
     | exact ⟨_, cs, true, rfl, HD.out.up (Nat.le_refl _) HbW.out.size, Hok.out, hl, HP1.out, TF.of_below Hbw1.out⟩))
 have hrs : RowsV W (SD 0 base W) 3 (some (ad.add (k * 3))) 0 ((ws.drop k).map It.row) := by
  have := RowsV.slice (f := It.row) hw2.1 k ws.length
  rwa [List.take_of_length_le (by rw [List.length_drop]; exact Nat.sub_le _ _)] at this
 have HCd := hid (pparse_any (S := SD 0 base W) (ws.drop k) (n - k) (by rw [List.length_drop, hn]) (by omega) (some (ad.add (k * 3))) (c - k) (by omega) pl W.drew (fun i hi => hw.2.1 i (List.mem_of_mem_drop hi)) (RowsV.below hrs (Below.refl _ _).drew))
 have hkc : (k : Int) <= (n : Int) := by omega
 have hnc : (n : Int) <= (c : Int) := by omega
 clear h hw hw2 hn hbw hrs
 obtain ⟨pt, hpt⟩ := xE w.heap.size
 rw [hpt] at HS
 have hlt := HS.out.lt
 obtain ⟨⟨c0, c1, c2⟩, f0, f1, f2⟩ := blk3_cells HS.out
 have HF := hid (fun a b Wx hp => fail20_any base pb its sz vd AL cL a b Wx hp)
 go_enter Tryz.func58, Tryz.ntmps58
 go_upto_region 1 with fail
 clear hW
 go_region_held3 (fun w' => w'.cell? ⟨pt, 0, none⟩ = some (.slice (some ad) n c) /\ w'.cell? ⟨pt, 2, none⟩ = some (.int .i64 pl) /\ Below W.heap.size W w' /\ pt < w'.heap.size)
  (first
   | exact ⟨c0, c2, (Below.refl _ _).drew, hlt⟩
   | exact ⟨(Below.cell (p := ⟨pt, 0, none⟩) hbk hlt).trans c0, (Below.cell (p := ⟨pt, 2, none⟩) hbk hlt).trans c2, (Below.refl _ _).drew.trans hbk, Nat.lt_of_lt_of_le hlt hbk.size⟩
   | go_keep)
  (first
   | (go_at_call 73; refine HCd.out.mono ?_; rintro e w1 ⟨v, cs, p1, er, rfl, hd, hok, hl, hbk⟩))
 all_goals (
  go_split_ands
  have hb1 : Below W.heap.size W w1 := by assumption
  have HP1 := hid (HP.out.below hb1);have Hok := hid hok;have HD := hid hd;have hbw1 : Below w.heap.size w w1 := HbW.out.trans (hb1.mono HbW.out.size);have Hbw1 := hid hbw1;clear hok hd hbw1;go_wp2_with (go_at_call 42; refine (HF.out _ _ _ HP1.out).mono ?_; rintro e w3 ⟨rfl, hp, ht⟩)
  all_goals (
   go_ret2
   first
    | exact ⟨_, [], false, rfl, DtV.none_, (fun _ h => by cases h), Nat.zero_le _, hp, (TF.of_below Hbw1.out).trans ht⟩
    | exact ⟨_, cs, true, rfl, HD.out.up (Nat.le_refl _) HbW.out.size, Hok.out, hl, HP1.out, TF.of_below Hbw1.out⟩))
theorem PIn.lt {base pb : Nat} {its : List It} {sz : Nat} {vd : Value} {AL : Option Addr} {cL : Nat} {w : World} (h : PIn base pb its sz vd AL cL w) : base <= pb /\ pb < w.heap.size := by
 obtain ⟨len, at_, er, h1, h2⟩ := h
 exact ⟨h2, Blk.lt h1⟩
theorem TF.own {X : TypeId -> Bool} {base : Nat} {w w' w2 : World} {g : Nat} (h : TF X base w w') (hg : w.heap.size <= g) (hw : w'.heap.size <= w2.heap.size) (ho : w2.os = w'.os /\ w2.tape = w'.tape /\ w2.output = w'.output) (hb : ∀ b, b ≠ g -> b < w'.heap.size -> w2.heap[b]? = w'.heap[b]?) : TF X base w w2 :=
 ⟨ho.1.trans h.os, ho.2.1.trans h.tape, ho.2.2.trans h.output, Nat.le_trans h.size hw, fun b hl hc => (hb b (by omega) (Nat.lt_of_lt_of_le hl h.size)).trans (h.block b hl hc)⟩
theorem PIn.set_ {base pb : Nat} {its : List It} {sz : Nat} {vd : Value} {AL : Option Addr} {cL : Nat} {w : World} {g i : Nat} {t : TypeId} {cs : Array Value} (h : PIn base pb its sz vd AL cL w) (hB : Blk w g t cs) (h2 : t ≠ 77) (u : Value) : PIn base pb its sz vd AL cL (w.setCell ⟨g, i, none⟩ u) := by
 obtain ⟨len, at_, er, k1, k2⟩ := h
 have hne : pb ≠ g := fun e => by subst e; exact Blk.ne_ k1 hB (fun e => h2 e.symm) rfl
 exact ⟨len, at_, er, Blk.far k1 (p := ⟨g, i, none⟩) hne u, k2⟩
theorem PIn.piece {base pb : Nat} {its : List It} {sz : Nat} {vd : Value} {AL : Option Addr} {cL : Nat} {w : World} {g : Nat} {a0 a1 a2 v0 v1 v2 : Value} (h : PIn base pb its sz vd AL cL w) (hB : Blk w g 80 #[a0, a1, a2]) : PIn base pb its sz vd AL cL (((w.setCell ⟨g, 0, none⟩ v0).setCell ⟨g, 1, none⟩ v1).setCell ⟨g, 2, none⟩ v2) := by
 have e1 := h.set_ (i := 0) hB (by decide) v0
 have b1 := hB.set_ 0 v0
 have e2 := e1.set_ (i := 1) b1 (by decide) v1
 have b2 := b1.set_ 1 v1
 exact e2.set_ (i := 2) b2 (by decide) v2
theorem RowsN.set_ {lo : Nat} {w : World} {sz : Nat} {A : Option Addr} {l : List (List Dt)} {g i : Nat} {t : TypeId} {cs : Array Value} (h : RowsN 0 lo w sz A l) (hB : Blk w g t cs) (h1 : dT t = false) (u : Value) : RowsN 0 lo (w.setCell ⟨g, i, none⟩ u) sz A l :=
 h.stay (by simp) fun b hb _ => Below.heap_setCell w _ _ b (by
  rintro rfl;rcases hb with hb | ⟨_, cs', t', fr, e1, e2⟩
  ·omega
  unfold Blk at hB;rw [hB] at e1;injection e1 with e1
  injection e1 with _ e3
  rw [<- e3, h1] at e2; cases e2)
theorem RowsN.piece {lo : Nat} {w : World} {sz : Nat} {A : Option Addr} {l : List (List Dt)} {g : Nat} {a0 a1 a2 v0 v1 v2 : Value} (h : RowsN 0 lo w sz A l) (hB : Blk w g 80 #[a0, a1, a2]) : RowsN 0 lo (((w.setCell ⟨g, 0, none⟩ v0).setCell ⟨g, 1, none⟩ v1).setCell ⟨g, 2, none⟩ v2) sz A l := by
 have e1 := h.set_ (i := 0) hB rfl v0
 have b1 := hB.set_ 0 v0
 have e2 := e1.set_ (i := 1) b1 rfl v1
 have b2 := b1.set_ 1 v1
 exact e2.set_ (i := 2) b2 rfl v2
theorem TF.put3 {X : TypeId -> Bool} {base : Nat} {w w' : World} {g : Nat} {v0 v1 v2 : Value} (h : TF X base w w') (hg : w.heap.size <= g) : TF X base w (((w'.setCell ⟨g, 0, none⟩ v0).setCell ⟨g, 1, none⟩ v1).setCell ⟨g, 2, none⟩ v2) :=
 ((h.setCell (p := ⟨g, 0, none⟩) (.inl hg) v0).setCell (p := ⟨g, 1, none⟩) (.inl hg) v1).setCell (p := ⟨g, 2, none⟩) (.inl hg) v2
def PWd (base pb : Nat) (its : List It) (sz : Nat) (vd : Value) (AL : Option Addr) (cL : Nat) (w : World) (e : Ending) (w' : World) : Prop := ∃ (pw : Pw) (A : Option Addr) (c : Nat) (b : Bool), e = .returned (.tuple #[.agg #[.slice A pw.ws.length c, .string pw.hd, .int .i64 pw.pl], .bool b]) /\ (b = true -> PwAt w.heap.size pw A c w' /\ 1 <= pw.ws.length) /\ PIn base pb its sz vd AL cL w' /\ TF XQ base w w'
theorem words20_any (base pb : Nat) (its : List It) (sz : Nat) (vd : Value) (AL : Option Addr) (cL : Nat) (k : Int) (x : ByteArray) (at_ : Int) (w : World) (hx : x.size <= 1048576) (h : PIn base pb its sz vd AL cL w) : Calls Tryz.prog 41 #[.pointer (some ⟨pb, 0, none⟩), .agg #[.int .i64 k, .string x, .int .i64 at_]] w (PWd base pb its sz vd AL cL w) := by
 obtain ⟨W, hW⟩ := xE ((w.alloc (.cells #[.int .i64 k, .string x, .int .i64 at_] 107)).alloc (.cells #[.slice none 0 0, .string ⟨#[]⟩, .int .i64 0] 80))
 have HS : Hid (Blk W w.heap.size 107 #[.int .i64 k, .string x, .int .i64 at_]) := hid (by rw [<- hW]; exact (Blk.new w _ _).alloc _)
 have HR : Hid (Blk W (w.heap.size + 1) 80 #[.slice none 0 0, .string ⟨#[]⟩, .int .i64 0]) := hid (by rw [<- hW]; exact Blk.new_at _ _ (by simp) _ _)
 have hbw : Below w.heap.size w W := by rw [<- hW]; go_grown
 have HbW := hid hbw
 have HP := hid (h.below hbw)
 have hbl := h.lt
 have HW := hid (fun Wx => words_any x at_ Wx hx)
 have HF := hid (fun a b Wx hp => fail20_any base pb its sz vd AL cL a b Wx hp)
 obtain ⟨pt, hpt⟩ := xE w.heap.size
 rw [hpt] at HS HR hbl
 have hlt2 := HR.out.lt
 have hlt1 := HS.out.lt
 clear h hbw
 obtain ⟨⟨c0, c1, c2⟩, f0, f1, f2⟩ := blk3_cells HS.out
 go_enter Tryz.func41, Tryz.ntmps41
 go_upto_region 2 with (go_at_call 56; refine (HW.out _).mono ?_; rintro e w1 ⟨A, c, ws, p1, er, rfl, hc, hd, hok, hl, hb1⟩)
 clear hW c0 c1 c2 f0 f1 f2
 have HS1 := hid (HS.out.below hb1 hlt1)
 have HR1 := hid (HR.out.below hb1 hlt2)
 have Hb1 := hid (HbW.out.trans (hb1.mono HbW.out.size))
 have HP1 := hid (HP.out.below hb1)
 have hs1 := hb1.size
 have hsW := HbW.out.size
 have hl1 := HS1.out.lt
 have hl2 := HR1.out.lt
 have HD : Hid (DtN 0 w.heap.size w1 (.slice A ws.length c) (.rows 3 (ws.map It.row))) := hid (hd.up (Nat.le_refl _) (by omega))
 have Hok := hid hok
 clear hd hok hb1 HS HR HP HbW
 obtain ⟨q, hq⟩ := xE (er != 0)
 cases q
 ·obtain ⟨nw, hnw⟩ := xE ws.length;have Hnw := hid hnw;rw [hnw] at hc hl HD ⊢;clear hnw;rcases Nat.eq_zero_or_pos nw with h0 | h0
  ·subst h0;obtain ⟨_, _, c2⟩ := (blk3_cells HS1.out).1;go_wp2_with (go_at_call 42; refine (HF.out _ _ _ HP1.out).mono ?_; rintro e w3 ⟨rfl, hp, ht⟩; have HR3 := hid (Blk.tf HR1.out ht rfl); have hp' := hid hp; have ht' := hid ht; clear hp ht; obtain ⟨⟨d0, d1, d2⟩, g0, g1, g2⟩ := blk3_cells HR3.out)
   (try simp only [Exit.inBlock, Exit.then]);refine rc1 (pt + 1) (blk3_put HR3.out) ?_;refine ⟨⟨[], ⟨#[]⟩, 0⟩, none, 0, false, rfl, (fun h => by cases h), hp'.out.piece HR3.out, ?_⟩;exact ((TF.of_below Hb1.out).trans ht'.out).put3 (by omega)
  have h0i : ((nw : Int) == 0) = false := beq_eq_false_iff_ne.2 (by omega);have hl0 : 0 < ws.length := by have := Hnw.out; omega
  obtain ⟨A', c', hA', hrows⟩ := DtV.slice HD.out (n := nw) (by rw [List.length_map]; exact Hnw.out);cases hA';obtain ⟨ad, rfl, _, hadl, hrow⟩ := RowsV.get hrows hl0;obtain ⟨p0, hp0⟩ := xE ws[0];rw [hp0] at hrow;obtain ⟨k0, x0, pl0⟩ := p0;obtain ⟨i0, i1, i2⟩ := It.at_ hrow;simp only [Nat.zero_mul, addr_zero] at i0 i1 i2;clear hrow hp0 i2;obtain ⟨_, _, c2⟩ := (blk3_cells HS1.out).1;go_upto_region 7 with fail
  obtain ⟨w2, hw2⟩ := xE (w1.alloc (.cells #[.slice (some ad) nw c, .string ⟨#[]⟩, .int .i64 at_] 80));have hal : Below w1.heap.size w1 w2 := by rw [<- hw2]; exact alloc_below _ _
  have HX2 : Hid (Blk w2 w1.heap.size 80 #[.slice (some ad) nw c, .string ⟨#[]⟩, .int .i64 at_]) := hid (by rw [<- hw2]; exact Blk.new w1 _ _);have HR2 := hid (HR1.out.below hal hl2);have HP2 := hid (HP1.out.below hal);have HD2 := hid (RowsN.below hrows hal);have Hb2 := hid (Hb1.out.trans (hal.mono Hb1.out.size));have j0 := (hal.cell (p := ad) hadl).trans i0;have j1 := (hal.cell (p := ⟨ad.block, ad.off + 1, none⟩) hadl).trans i1;have hne : ¬ (pt + 1 = w1.heap.size) := by omega
  rw [hw2];obtain ⟨gx, hgx⟩ := xE w1.heap.size;rw [hgx] at HX2 hne hs1 hl1 hl2 ⊢;clear hw2 hal i0 i1 c2 hgx hrows HS1 HR1 HP1 HD;have Hwd : Hid (∀ wf, RowsN 0 w.heap.size wf 3 (some ad) (ws.map It.row) -> PwAt w.heap.size ⟨ws, ⟨#[]⟩, at_⟩ (some ad) c wf) := hid (fun wf hr => ⟨hr, Hok.out, by show ws.length <= c; rw [Hnw.out]; exact hc, by show ws.length <= _; rw [Hnw.out]; omega⟩);obtain ⟨q1, hq1⟩ := xE (k0 == 1);obtain ⟨⟨e0, e1, e2⟩, k0', k1', k2'⟩ := blk3_cells HX2.out;obtain ⟨⟨d0, d1, d2⟩, g0, g1, g2⟩ := blk3_cells HR2.out;cases q1
  ·go_wp2_with fail
   (try simp only [Exit.inBlock, Exit.then]);refine rc1 (pt + 1) (blk3_put HR2.out) ?_;refine ⟨⟨ws, ⟨#[]⟩, at_⟩, some ad, c, true, by rw [<- Hnw.out]; rfl, fun _ => ⟨Hwd.out _ (HD2.out.piece HR2.out), by show 1 <= ws.length; omega⟩, HP2.out.piece HR2.out, ?_⟩;exact (TF.of_below Hb2.out).put3 (by omega)
  go_wp2_with fail
  (try simp only [Exit.inBlock, Exit.then]);refine rc1 (pt + 1) (blk3_put (HR2.out.far (p := ⟨gx, 1, none⟩) hne _)) ?_;refine ⟨⟨ws, x0, at_⟩, some ad, c, true, by rw [<- Hnw.out]; rfl, fun _ => ⟨⟨(HD2.out.set_ HX2.out rfl _).piece (HR2.out.far (p := ⟨gx, 1, none⟩) hne _), (Hwd.out w2 HD2.out).2⟩, by show 1 <= ws.length; omega⟩, (HP2.out.set_ HX2.out (by decide) _).piece (HR2.out.far (p := ⟨gx, 1, none⟩) hne _), ?_⟩;exact ((TF.of_below Hb2.out).setCell (p := ⟨gx, 1, none⟩) (.inl (by show w.heap.size <= gx; omega)) _).put3 (by omega)
 go_wp2_with (go_at_call 42; refine (HF.out _ _ _ HP1.out).mono ?_; rintro e w3 ⟨rfl, hp, ht⟩; have HR3 := hid (Blk.tf HR1.out ht rfl); have hp' := hid hp; have ht' := hid ht; clear hp ht; obtain ⟨⟨d0, d1, d2⟩, g0, g1, g2⟩ := blk3_cells HR3.out)
 (try simp only [Exit.inBlock, Exit.then])
 refine rc1 (pt + 1) (blk3_put HR3.out) ?_
 refine ⟨⟨[], ⟨#[]⟩, 0⟩, none, 0, false, rfl, (fun h => by cases h), hp'.out.piece HR3.out, ?_⟩
 exact ((TF.of_below Hb1.out).trans ht'.out).put3 (by omega)
section
variable {X : TypeId -> Bool} {base : Nat} {w w' : World} {g g' : Nat} {t t' : TypeId} {cs cs' : Array Value} {vs : List Value}
theorem setCells_far : ∀ (vs : List Value) (o : Nat) (w : World) {k : Nat}, k ≠ g -> (w.setCells g o vs).heap[k]? = w.heap[k]?
 | [], _, _, _, _ => rfl
 | v :: r, o, w, k, hk => by
  rw [World.setCells, setCells_far r (o + 1) _ hk];exact Below.heap_setCell w ⟨g, o, none⟩ v k hk
theorem setCells_same : ∀ (vs : List Value) (o : Nat) (w : World), (w.setCells g o vs).os = w.os /\ (w.setCells g o vs).tape = w.tape /\ (w.setCells g o vs).output = w.output /\ (w.setCells g o vs).heap.size = w.heap.size
 | [], _, _ => ⟨rfl, rfl, rfl, rfl⟩
 | v :: r, o, w => by
  obtain ⟨h1, h2, h3, h4⟩ := setCells_same r (o + 1) (w.setCell ⟨g, o, none⟩ v);rw [World.setCells];exact ⟨h1, h2, h3, h4.trans (by simp)⟩
theorem setCells_size (vs : List Value) (o : Nat) (w : World) : (w.setCells g o vs).heap.size = w.heap.size := (setCells_same vs o w).2.2.2
theorem setCells_blk : ∀ (vs : List Value) (o : Nat) (w : World) (cs : Array Value), Blk w g t cs -> o + vs.length = cs.size -> ∃ ds : Array Value, Blk (w.setCells g o vs) g t ds /\ ds.size = cs.size /\ (∀ i, i < o -> ds[i]? = cs[i]?) /\ ∀ i, i < vs.length -> ds[o + i]? = vs[i]?
 | [], o, w, cs, h, hl => ⟨cs, h, rfl, fun _ _ => rfl, fun i hi => by cases hi⟩
 | v :: r, o, w, cs, h, hl => by
  have hl' : o + (r.length + 1) = cs.size := hl;obtain ⟨ds, h1, h2, h3, h4⟩ := setCells_blk r (o + 1) _ _ (h.set_ o v) (by rw [Array.size_setIfInBounds]; omega);rw [Array.size_setIfInBounds] at h2;refine ⟨ds, by rw [World.setCells]; exact h1, h2, fun i hi => ?_, fun i hi => ?_⟩
  ·rw [h3 i (by omega), Array.getElem?_setIfInBounds_ne (by omega)]
  cases i with
  | zero =>
   rw [Nat.add_zero, h3 o (by omega), Array.getElem?_setIfInBounds_self_of_lt (by omega)]; rfl
  | succ i =>
   have := h4 i (by have : i + 1 < r.length + 1 := hi; omega);rw [show o + (i + 1) = o + 1 + i by omega, this]; rfl
theorem Blk.put (h : Blk w g t cs) (hl : cs.size = vs.length) : Blk (w.setCells g 0 vs) g t vs.toArray := by
 obtain ⟨ds, h1, h2, _, h4⟩ := setCells_blk vs 0 w cs h (by omega)
 have e : ds = vs.toArray := by
  apply Array.ext_getElem?;intro i;by_cases hi : i < vs.length
  ·have := h4 i hi;rw [Nat.zero_add] at this;rw [this]; simp
  rw [Array.getElem?_eq_none (by omega), Array.getElem?_eq_none (by simpa using hi)]
 rw [<- e]; exact h1
theorem Blk.farC (h : Blk w g t cs) (hg : g ≠ g') (o : Nat) (vs : List Value) : Blk (w.setCells g' o vs) g t cs := (setCells_far vs o w hg).trans h
theorem Blk.range (h : Blk w g t cs) {l : List Value} (hl : cs.toList = l) : w.rangeAt g 0 l := fun j v hv => by
 subst hl
 rw [Nat.zero_add, h.cell j, <- hv]
 simp
theorem Blk.there (h : Blk w g t cs) {n : Nat} (hn : cs.size = n) : w.there g 0 n := fun j hj => ⟨by rw [Nat.zero_add, h.cell j, Array.getElem?_eq_getElem (by omega)]; rfl, h.frozen _⟩
theorem TF.putC (h : TF X base w w') (hg : w.heap.size <= g) (o : Nat) (vs : List Value) : TF X base w (w'.setCells g o vs) := by
 obtain ⟨h1, h2, h3, h4⟩ := setCells_same (g := g) vs o w'
 exact h.own hg (Nat.le_of_eq h4.symm) ⟨h1, h2, h3⟩ fun b hb _ => setCells_far vs o w' hb
theorem DtN.putC {b0 lo : Nat} {v : Value} {d : Dt} (h : DtN b0 lo w v d) (h0 : b0 <= g) (h1 : g < lo) (o : Nat) (vs : List Value) : DtN b0 lo (w.setCells g o vs) v d := by
 refine DtV.keep (Nat.le_of_eq (setCells_size vs o w).symm) (fun b hS hl => ?_) d v h
 have hne : b ≠ g := by
  rcases hS with h | ⟨h, _⟩ <;> omega
 have e : (w.setCells g o vs).heap[b]? = w.heap[b]? := setCells_far vs o w hne
 exact ⟨hS.keep e, e⟩
theorem PIn.putC {pb : Nat} {its : List It} {sz : Nat} {vd : Value} {AL : Option Addr} {cL : Nat} (h : PIn base pb its sz vd AL cL w) (hB : Blk w g t cs) (h2 : t ≠ 77) (o : Nat) (vs : List Value) : PIn base pb its sz vd AL cL (w.setCells g o vs) := by
 obtain ⟨len, at_, er, k1, k2⟩ := h
 have hne : pb ≠ g := fun e => by subst e; exact Blk.ne_ k1 hB (fun e => h2 e.symm) rfl
 exact ⟨len, at_, er, Blk.farC k1 hne o vs, k2⟩
end
theorem wpl_load {ops : Array Oper} {rest : List Oper} {op : Oper} {a : Act} {w : World} {Q : Exit -> Act -> World -> Prop} {g : Nat} {t ty : TypeId} {l : List Value} (h : Blk w g t l.toArray) (hgd : op.guard = none) (x : Operand) (ho : op.op = .load ty x)
  (hx : a.eval x = .pointer (some ⟨g, 0, none⟩)) (d : TypeDesc) (hu : Tryz.prog.underlying ty = some d) (hd : d.isRow = true) (hi : (Tryz.prog.info? ty).map (·.size) = some l.length)
  (k : wpList Tryz.prog ops Q rest (a.put op.dst (.agg l.toArray)) w) : wpList Tryz.prog ops Q (op :: rest) a w :=
 wpList_load_mid hgd ty x ho g 0 hx l d (h.range (by simp)) hu hd hi k
theorem wpl_store {ops : Array Oper} {rest : List Oper} {op : Oper} {a : Act} {w : World} {Q : Exit -> Act -> World -> Prop} {g : Nat} {t ty : TypeId} {cs : Array Value} {l : List Value} (h : Blk w g t cs) (hl : cs.size = l.length) (h1 : l.all (·.oneCell') = true) (hgd : op.guard = none) (x y : Operand) (ho : op.op = .store ty x y)
  (hx : a.eval x = .pointer (some ⟨g, 0, none⟩)) (hy : a.eval y = .agg l.toArray) (hi : (Tryz.prog.info? ty).map (·.size) = some l.length) (hd : op.dst = none)
  (k : wpList Tryz.prog ops Q rest a (w.setCells g 0 l)) : wpList Tryz.prog ops Q (op :: rest) a w :=
 wpList_store_mid hgd ty x y ho g 0 l.toArray hx hy (h.there (by simp [hl])) (by simpa using hi) (by simpa using h1) (by rw [hd]; simpa [Act.put] using k)
theorem wpl_move {ops : Array Oper} {rest : List Oper} {op : Oper} {a : Act} {w : World} {Q : Exit -> Act -> World -> Prop} {v : Value} (hgd : op.guard = none) (hrun : (execOp a.eval op).run Tryz.prog w = .ok (.value v) w)
  (k : wpList Tryz.prog ops Q rest (a.put op.dst v) w) : wpList Tryz.prog ops Q (op :: rest) a w :=
 wpList_plain hgd fun _ hK => by
  unfold Oper.wp;rw [hrun];exact hK _ _ k
theorem yields_load {ops : Array Oper} {S : World -> Prop} {op : Oper} {a : Act} {g : Nat} {t ty : TypeId} {l : List Value} (hS : ∀ w, S w -> Blk w g t l.toArray) (hw : Region.wanted op (yielded ops a.tmps) = true) (x : Operand) (ho : op.op = .load ty x)
  (hx : a.eval x = .pointer (some ⟨g, 0, none⟩)) (d : TypeDesc) (hu : Tryz.prog.underlying ty = some d) (hd : d.isRow = true) (hi : (Tryz.prog.info? ty).map (·.size) = some l.length) : YieldsIf Tryz.prog ops S op (.agg l.toArray) a :=
 yieldsIf_load_mid hw ty x ho g 0 hx l d (fun w h => (hS w h).range (by simp)) hu hd hi
section
variable {ops : Array Oper} {Q : Exit -> Act -> World -> Prop} {md : Region.Mode} {S : World -> Prop} {fuel : Nat} {listed : Array Bool} {a : Act} {w : World} {oi : Oper} {v : Value} {rs : List Nat} {X : Prop}
theorem takeH (i : Nat) (d : Option Tmp) (hi : ops[i]? = some oi) (hd : oi.dst = d) (hs : Region.noSelect ops = true) (hf : Region.free md ops listed i = true) (hr : (Region.ready md ops listed).contains i = true)
  (hQ : ∀ c a w, Q (.panic c) (a.put oi.dst v) w -> Q (.panic c) a w) (hy : YieldsIf Tryz.prog ops S oi v a) (hS : S w)
  (h : wpAnyH Tryz.prog md ops Q S fuel (listed.setIfInBounds i true) (a.put d v) w) : wpAnyH Tryz.prog md ops Q S (fuel + 1) listed a w := by
 subst hd
 exact wpAnyH_take hi hs hf hr hQ hy hS h
theorem yields_cell {g j : Nat} (hS : ∀ w, S w -> w.cell? ⟨g, j, none⟩ = some v) (hw : Region.wanted oi (yielded ops a.tmps) = true) (hrun : ∀ w, w.cell? ⟨g, j, none⟩ = some v -> (execOp a.eval oi).run Tryz.prog w = .ok (.value v) w) : YieldsIf Tryz.prog ops S oi v a :=
 .inl ⟨hw, fun w h => hrun w (hS w h)⟩
theorem yields_pure (hw : Region.wanted oi (yielded ops a.tmps) = true) (hrun : ∀ w, (execOp a.eval oi).run Tryz.prog w = .ok (.value v) w) : YieldsIf Tryz.prog ops S oi v a := .inl ⟨hw, fun w _ => hrun w⟩
theorem callH (i : Nat) (d : Option Tmp) (hi : ops[i]? = some oi) (hd : oi.dst = d) (hw : Region.wanted oi (yielded ops a.tmps) = true) {f : FuncId} {args : Array Value} (hrun : (execOp a.eval oi).run Tryz.prog w = .ok (.enter f args) w)
  {R : Ending -> World -> Prop} (hc : Calls Tryz.prog f args w R) (h : ∀ e w', R e w' -> ∃ v, e = .returned v /\ S w' /\ wpAnyH Tryz.prog md ops Q S fuel (listed.setIfInBounds i true) (a.put d v) w') (hs : AllReadyH Tryz.prog md ops Q S fuel listed a w rs) : AllReadyH Tryz.prog md ops Q S fuel listed a w (i :: rs) :=
 AllReadyH.cons hi (fun K hK => by
  rw [if_pos hw];unfold Oper.wp;rw [hrun, Oper.upon_enter];refine hc.mono fun e w' hR => ?_
  obtain ⟨v, rfl, hS, hW⟩ := h e w' hR;subst hd;exact hK.out _ _ hS fun _ => hW) hs
theorem storeH (i : Nat) {g : Nat} {t ty : TypeId} {cs : Array Value} {l : List Value} (hi : ops[i]? = some oi) (hd : oi.dst = none) (hw : Region.wanted oi (yielded ops a.tmps) = true) (x y : Operand) (ho : oi.op = .store ty x y) (hx : a.eval x = .pointer (some ⟨g, 0, none⟩)) (hy : a.eval y = .agg l.toArray)
  (hB : Blk w g t cs) (hl : cs.size = l.length) (h1 : l.all (·.oneCell') = true) (hinf : (Tryz.prog.info? ty).map (·.size) = some l.length)
  (h : S (w.setCells g 0 l) /\ wpAnyH Tryz.prog md ops Q S fuel (listed.setIfInBounds i true) a (w.setCells g 0 l)) (hs : AllReadyH Tryz.prog md ops Q S fuel listed a w rs) : AllReadyH Tryz.prog md ops Q S fuel listed a w (i :: rs) :=
 AllReadyH.cons hi (fun K hK => by
  rw [if_pos hw];refine wp_store_mid ty x y ho g 0 l.toArray hx hy (hB.there (by simp [hl])) (by simpa using hinf) (by simpa using h1) ?_;rw [hd];exact hK.out _ _ (by simpa using h.1) fun _ => by simpa [Act.put] using h.2) hs
end
theorem uNode : (Tryz.prog.info? 52).map (·.size) = some 9 := by kernel_rfl
theorem uPiece : (Tryz.prog.info? 80).map (·.size) = some 3 := by kernel_rfl
theorem uState : (Tryz.prog.info? 32).map (·.size) = some 8 := by kernel_rfl
section
variable {ops : Array Oper} {rest : List Oper} {op oi : Oper} {l l' L : List Value} {df : List Deferred} {w : World} {Q : Exit -> Act -> World -> Prop} {d g : Nat} {md : Region.Mode} {S : World -> Prop} {fuel : Nat} {listed : Array Bool} {a : Act} {t ty : TypeId} {x y : Operand}
theorem mv (v : Value) (k : wpList Tryz.prog ops Q rest ⟨l'.toArray, df⟩ w) (hgd : op.guard = none := by exact rfl) (hd : op.dst = some d := by exact rfl) (hrun : (execOp (Act.mk l.toArray df).eval op).run Tryz.prog w = .ok (.value v) w := by first | rfl | (go_simp; done) | (go_simp; rfl) | (go_simp; decide)) (hl : l.set d v = l' := by first | (simp only [List.set_cons_zero, List.set_cons_succ]; exact rfl) | simp only [List.set_cons_zero, List.set_cons_succ]) : wpList Tryz.prog ops Q (op :: rest) ⟨l.toArray, df⟩ w := by
 subst hl
 exact wpl_move hgd hrun (by rw [hd]; simpa only [Act.put, List.setIfInBounds_toArray] using k)
theorem isRow_spec {o : Option TypeDesc} (h : isR o = true) : ∃ d, o = some d /\ d.isRow = true := by
 unfold isR at h
 split at h
 ·exact ⟨_, rfl, rfl⟩
 ·exact ⟨_, rfl, rfl⟩
 cases h
theorem ldI (L : List Value) (h : Blk w g t L.toArray) (hi : (Tryz.prog.info? ty).map (·.size) = some L.length) (k : wpList Tryz.prog ops Q rest ⟨l'.toArray, df⟩ w) (hgd : op.guard = none := by exact rfl) (hd : op.dst = some d := by exact rfl) (ho : op.op = .load ty x := by exact rfl) (hx : (Act.mk l.toArray df).eval x = .pointer (some ⟨g, 0, none⟩) := by exact rfl) (hu : isR (Tryz.prog.underlying ty) = true := by kernel_rfl) (hl : l.set d (.agg L.toArray) = l' := by first | (simp only [List.set_cons_zero, List.set_cons_succ]; exact rfl) | simp only [List.set_cons_zero, List.set_cons_succ]) : wpList Tryz.prog ops Q (op :: rest) ⟨l.toArray, df⟩ w := by
 subst hl
 obtain ⟨dd, h1, h2⟩ := isRow_spec hu
 exact wpl_load h hgd x ho hx dd h1 h2 hi (by rw [hd]; simpa only [Act.put, List.setIfInBounds_toArray] using k)
theorem ld (L : List Value) (h : Blk w g t L.toArray) (k : wpList Tryz.prog ops Q rest ⟨l'.toArray, df⟩ w) (hgd : op.guard = none := by exact rfl) (hd : op.dst = some d := by exact rfl) (ho : op.op = .load ty x := by exact rfl) (hx : (Act.mk l.toArray df).eval x = .pointer (some ⟨g, 0, none⟩) := by exact rfl) (hu : isR (Tryz.prog.underlying ty) = true := by kernel_rfl) (hl : l.set d (.agg L.toArray) = l' := by first | (simp only [List.set_cons_zero, List.set_cons_succ]; exact rfl) | simp only [List.set_cons_zero, List.set_cons_succ]) (hi : (Tryz.prog.info? ty).map (·.size) = some L.length := by kernel_rfl) : wpList Tryz.prog ops Q (op :: rest) ⟨l.toArray, df⟩ w := ldI L h hi k hgd hd ho hx hu hl
theorem stI {cs : Array Value} (L : List Value) (h : Blk w g t cs) (hs : cs.size = L.length) (h1 : L.all (·.oneCell') = true) (hi : (Tryz.prog.info? ty).map (·.size) = some L.length) (k : wpList Tryz.prog ops Q rest a (w.setCells g 0 L)) (hgd : op.guard = none := by exact rfl) (ho : op.op = .store ty x y := by exact rfl) (hx : a.eval x = .pointer (some ⟨g, 0, none⟩) := by exact rfl) (hy : a.eval y = .agg L.toArray := by exact rfl) (hd : op.dst = none := by exact rfl) : wpList Tryz.prog ops Q (op :: rest) a w :=
 wpl_store h hs h1 hgd x y ho hx hy hi hd k
theorem st {cs : Array Value} (L : List Value) (h : Blk w g t cs) (k : wpList Tryz.prog ops Q rest a (w.setCells g 0 L)) (hgd : op.guard = none := by exact rfl) (ho : op.op = .store ty x y := by exact rfl) (hx : a.eval x = .pointer (some ⟨g, 0, none⟩) := by exact rfl) (hy : a.eval y = .agg L.toArray := by exact rfl) (hd : op.dst = none := by exact rfl) (hs : cs.size = L.length := by exact rfl) (h1 : L.all (·.oneCell') = true := by exact rfl) (hi : (Tryz.prog.info? ty).map (·.size) = some L.length := by kernel_rfl) : wpList Tryz.prog ops Q (op :: rest) a w :=
 wpl_store h hs h1 hgd x y ho hx hy hi hd k
theorem tq (i d : Nat) (v : Value) (hi : ops[i]? = some oi) (hy : YieldsIf Tryz.prog ops S oi v ⟨l.toArray, df⟩) (hS : S w) (h : wpAnyH Tryz.prog md ops Q S fuel (listed.setIfInBounds i true) ⟨l'.toArray, df⟩ w) (hd : oi.dst = some d := by exact rfl) (hs : Region.noSelect ops = true := by kernel_rfl) (hf : Region.free md ops listed i = true := by kernel_rfl) (hr : (Region.ready md ops listed).contains i = true := by kernel_rfl)
 (hQ : ∀ c a w, Q (.panic c) (a.put oi.dst v) w -> Q (.panic c) a w := by exact fun _ _ _ h => h) (hl : l.set d v = l' := by first | (simp only [List.set_cons_zero, List.set_cons_succ]; exact rfl) | simp only [List.set_cons_zero, List.set_cons_succ]) : wpAnyH Tryz.prog md ops Q S (fuel + 1) listed ⟨l.toArray, df⟩ w := by
 subst hl
 exact takeH i (some d) hi hd hs hf hr hQ hy hS (by simpa only [Act.put, List.setIfInBounds_toArray] using h)
theorem tk (i d : Nat) (v : Value) (hi : ops[i]? = some oi) (hS : S w) (h : wpAnyH Tryz.prog md ops Q S fuel (listed.setIfInBounds i true) ⟨l'.toArray, df⟩ w) (hd : oi.dst = some d := by exact rfl) (hs : Region.noSelect ops = true := by kernel_rfl) (hf : Region.free md ops listed i = true := by kernel_rfl) (hr : (Region.ready md ops listed).contains i = true := by kernel_rfl)
 (hQ : ∀ c a w, Q (.panic c) (a.put oi.dst v) w -> Q (.panic c) a w := by exact fun _ _ _ h => h) (hw : Region.wanted oi (yielded ops l.toArray) = true := by rfl) (hrun : ∀ w, (execOp (Act.mk l.toArray df).eval oi).run Tryz.prog w = .ok (.value v) w := by intro w; first | rfl | (go_simp; done) | (go_simp; rfl)) (hl : l.set d v = l' := by first | (simp only [List.set_cons_zero, List.set_cons_succ]; exact rfl) | simp only [List.set_cons_zero, List.set_cons_succ]) : wpAnyH Tryz.prog md ops Q S (fuel + 1) listed ⟨l.toArray, df⟩ w :=
 tq i d v hi (yields_pure hw hrun) hS h hd hs hf hr hQ hl
theorem tu (i d : Nat) (hi : ops[i]? = some oi) (hS : S w) (h : wpAnyH Tryz.prog md ops Q S fuel (listed.setIfInBounds i true) ⟨l'.toArray, df⟩ w) (hd : oi.dst = some d := by exact rfl) (hs : Region.noSelect ops = true := by kernel_rfl) (hf : Region.free md ops listed i = true := by kernel_rfl) (hr : (Region.ready md ops listed).contains i = true := by kernel_rfl)
 (hQ : ∀ c a w, Q (.panic c) (a.put oi.dst undef) w -> Q (.panic c) a w := by exact fun _ _ _ h => h) (hw : Region.wanted oi (yielded ops l.toArray) = false := by kernel_rfl) (hl : l.set d undef = l' := by first | (simp only [List.set_cons_zero, List.set_cons_succ]; exact rfl) | simp only [List.set_cons_zero, List.set_cons_succ]) : wpAnyH Tryz.prog md ops Q S (fuel + 1) listed ⟨l.toArray, df⟩ w :=
 tq i d undef hi (.inr ⟨hw, rfl⟩) hS h hd hs hf hr hQ hl
theorem yc {v : Value} (g j : Nat) (hS : ∀ w, S w -> w.cell? ⟨g, j, none⟩ = some v) (hw : Region.wanted oi (yielded ops a.tmps) = true := by rfl) (hrun : ∀ w, w.cell? ⟨g, j, none⟩ = some v -> (execOp a.eval oi).run Tryz.prog w = .ok (.value v) w := by intro w hc; go_simp) : YieldsIf Tryz.prog ops S oi v a := yields_cell hS hw hrun
theorem ylI (L : List Value) (hS : ∀ w, S w -> Blk w g t L.toArray) (hi : (Tryz.prog.info? ty).map (·.size) = some L.length) (hw : Region.wanted oi (yielded ops a.tmps) = true := by rfl) (ho : oi.op = .load ty x := by exact rfl) (hx : a.eval x = .pointer (some ⟨g, 0, none⟩) := by exact rfl) (hu : isR (Tryz.prog.underlying ty) = true := by kernel_rfl) : YieldsIf Tryz.prog ops S oi (.agg L.toArray) a := by
 obtain ⟨dd, h1, h2⟩ := isRow_spec hu
 exact yields_load hS hw x ho hx dd h1 h2 hi
theorem yl (L : List Value) (hS : ∀ w, S w -> Blk w g t L.toArray) (hw : Region.wanted oi (yielded ops a.tmps) = true := by rfl) (ho : oi.op = .load ty x := by exact rfl) (hx : a.eval x = .pointer (some ⟨g, 0, none⟩) := by exact rfl) (hu : isR (Tryz.prog.underlying ty) = true := by kernel_rfl) (hi : (Tryz.prog.info? ty).map (·.size) = some L.length := by kernel_rfl) : YieldsIf Tryz.prog ops S oi (.agg L.toArray) a := ylI L hS hi hw ho hx hu
end
theorem xr {P : Program} {ops : Array Oper} {K : Act -> World -> Prop} {Q Q' : Exit -> Act -> World -> Prop} {a : Act} {w : World} {G : Prop} (k : G) (h : ∀ a w, Code.wp P Code.ret Q' a w -> K a w := by assumption) (hG : Q' .ret a w = G := by first | (simp only [Exit.then]; exact rfl) | (simp only [Exit.then]; done) | exact rfl) : Exit.then K Q .normal a w := h _ _ (wp_ret (hG ▸ k))
theorem xn {P : Program} {ops : Array Oper} {K : Act -> World -> Prop} {Q Q' : Exit -> Act -> World -> Prop} {a : Act} {w : World} {G : Prop} (k : G) (h : ∀ a w, Code.wp P Code.ret Q' a w -> K a w := by assumption) (hG : Q' .ret a w = G := by first | (simp only [Exit.then]; exact rfl) | (simp only [Exit.then]; done) | exact rfl) : wpList P ops (Exit.then K Q) [] a w := h _ _ (wp_ret (hG ▸ k))
theorem xh {P : Program} {ops : Array Oper} {K : Act -> World -> Prop} {Q Q' : Exit -> Act -> World -> Prop} {a : Act} {w : World} {G : Prop} {md : Region.Mode} {S : World -> Prop} {fuel : Nat} {listed : Array Bool} (k : G) (h : ∀ a w, Code.wp P Code.ret Q' a w -> K a w := by assumption) (hG : Q' .ret a w = G := by first | (simp only [Exit.then]; exact rfl) | (simp only [Exit.then]; done) | exact rfl) (hr : Region.ready md ops listed = [] := by kernel_rfl) : wpAnyH P md ops (Exit.then K Q) S fuel listed a w := wpAnyH_done hr (h _ _ (wp_ret (hG ▸ k))) _
def strWt : List ByteArray -> Nat
 | [] => 0
 | x :: r => 1 + x.size + strWt r
mutual
def Vd.wt : Vd -> Nat
 | .mk k n x l ks => 6 + x.size + strWt ks + vdsWt l
def vdsWt : List Vd -> Nat
 | [] => 0
 | v :: r => v.wt + vdsWt r
end
theorem strWt_len : ∀ l : List ByteArray, l.length <= strWt l
 | [] => Nat.zero_le _
 | x :: r => by
  have := strWt_len r;rw [strWt, List.length_cons]; omega
theorem strWt_mem : ∀ {l : List ByteArray} {x : ByteArray}, x ∈ l -> x.size <= strWt l
 | y :: r, x, h => by
  rw [strWt];rcases List.mem_cons.1 h with rfl | h
  ·omega
  have := strWt_mem h; omega
theorem Vd.wt_pos : ∀ v : Vd, 6 <= v.wt
 | .mk k n x l ks => by rw [Vd.wt]; omega
theorem vdsWt_len6 : ∀ l : List Vd, 6 * l.length <= vdsWt l
 | [] => Nat.zero_le _
 | v :: r => by
  have := vdsWt_len6 r;have := v.wt_pos;rw [vdsWt, List.length_cons]; omega
theorem vdsWt_len (l : List Vd) : l.length <= vdsWt l := by have := vdsWt_len6 l; omega
theorem vdsWt_mem : ∀ {l : List Vd} {v : Vd}, v ∈ l -> v.wt <= vdsWt l
 | y :: r, x, h => by
  rw [vdsWt];rcases List.mem_cons.1 h with rfl | h
  ·omega
  have := vdsWt_mem h; omega
theorem rowVd {w : World} {S : Nat -> Prop} {A : Option Addr} {l : List Vd} (h : RowsV w S 5 A 0 (vdRows l)) {k : Nat} (hk : k < l.length) : ∃ ad, A = some ad /\ ad.block < w.heap.size /\ RowV w S (ad.add (k * 5)) 0 (l[k]).row := by
 rw [vdRows_map] at h
 obtain ⟨ad, e, _, h2, h3⟩ := RowsV.get h hk
 exact ⟨ad, e, h2, h3⟩
def VdV (N B : Nat) (val : Value) (w : World) : Prop := ∃ (k m : Int) (x : ByteArray) (l : List Vd) (ks : List ByteArray) (nl nk : Nat) (Al Ak : Option Addr) (cl ck : Nat), val = .agg #[.int .i64 k, .int .i64 m, .string x, .slice Al nl cl, .slice Ak nk ck] /\ l.length = nl /\ ks.length = nk /\ (Vd.mk k m x l ks).wt <= N /\ RowsV w (fun b => b < B) 5 Al 0 (vdRows l) /\ RowsV w (fun b => b < B) 1 Ak 0 (strRows ks)
theorem VdV.zero {N B : Nat} (h : 6 <= N) {w : World} : VdV N B (.agg #[.int .i64 0, .int .i64 0, .string ⟨#[]⟩, .slice none 0 0, .slice none 0 0]) w := ⟨0, 0, ⟨#[]⟩, [], [], 0, 0, none, none, 0, 0, rfl, rfl, rfl, h, by unfold vdRows RowsV; trivial, by unfold strRows List.map RowsV; trivial⟩
theorem VdV.below {N B : Nat} {val : Value} {w w' : World} (h : VdV N B val w) (hb : Below w.heap.size w w') : VdV N B val w' := by
 obtain ⟨k, m, x, l, ks, nl, nk, Al, Ak, cl, ck, e, h1, h2, h3, h4, h5⟩ := h
 exact ⟨k, m, x, l, ks, nl, nk, Al, Ak, cl, ck, e, h1, h2, h3, h4.below hb, h5.below hb⟩
theorem VdV.flat {N B : Nat} {k m : Int} {x : ByteArray} (h : 6 + x.size <= N) {w : World} : VdV N B (.agg #[.int .i64 k, .int .i64 m, .string x, .slice none 0 0, .slice none 0 0]) w := ⟨k, m, x, [], [], 0, 0, none, none, 0, 0, rfl, rfl, rfl, by rw [Vd.wt]; simp only [strWt, vdsWt]; omega, by unfold vdRows RowsV; trivial, by unfold strRows List.map RowsV; trivial⟩
theorem VdV.keep {N B : Nat} {val : Value} {w w' : World} (h : VdV N B val w) (hb : Below B w w') : VdV N B val w' := by
 obtain ⟨k, m, x, l, ks, nl, nk, Al, Ak, cl, ck, e, h1, h2, h3, h4, h5⟩ := h
 exact ⟨k, m, x, l, ks, nl, nk, Al, Ak, cl, ck, e, h1, h2, h3, RowsV.keep hb.size (fun b hS _ => ⟨hS, hb.block b hS⟩) _ _ _ 0 h4, RowsV.keep hb.size (fun b hS _ => ⟨hS, hb.block b hS⟩) _ _ _ 0 h5⟩
theorem VdV.mono {N N' B : Nat} {val : Value} {w : World} (h : VdV N B val w) (hN : N <= N') : VdV N' B val w := by
 obtain ⟨k, m, x, l, ks, nl, nk, Al, Ak, cl, ck, e, h1, h2, h3, h4, h5⟩ := h
 exact ⟨k, m, x, l, ks, nl, nk, Al, Ak, cl, ck, e, h1, h2, Nat.le_trans h3 hN, h4, h5⟩
def PVv (N B : Nat) (w : World) (e : Ending) (w' : World) : Prop := ∃ val : Value, e = .returned val /\ VdV N B val w' /\ Below w.heap.size w w'
theorem text04_any (B : Nat) (s : ByteArray) (w : World) : Calls Tryz.prog 79 #[.string s] w (PVv (6 + s.size) B w) := by
 obtain ⟨W, hW⟩ := xE (w.alloc (.cells #[.int .i64 0, .int .i64 0, .string ⟨#[]⟩, .slice none 0 0, .slice none 0 0] 25))
 have hbw : Below w.heap.size w W := by rw [<- hW]; exact alloc_below _ _
 have HR : Hid (Blk W w.heap.size 25 #[.int .i64 0, .int .i64 0, .string ⟨#[]⟩, .slice none 0 0, .slice none 0 0]) := hid (by rw [<- hW]; exact Blk.new _ _ _)
 have Hb := hid hbw
 obtain ⟨pt, hpt⟩ := xE w.heap.size
 rw [hpt] at HR
 clear hbw
 obtain ⟨⟨d0, d1, d2, d3, d4⟩, g0, g1, g2, g3, g4⟩ := blk5_cells HR.out
 go_enter Tryz.func79, Tryz.ntmps79
 go_wp2_with fail
 all_goals (
  refine bodyPost_ret (results_cell_row rfl _ _ pt _ _ (0, 0) _ rfl (blk5_put HR.out) Tryz.underlying25 rfl (by kernel_rfl)) rfl ?_;exact ⟨_, rfl, VdV.flat (Nat.le_refl _), Hb.out.trans (put5_below (Nat.le_of_eq hpt))⟩)
theorem int04_any (B : Nat) (n : Int) (w : World) : Calls Tryz.prog 78 #[.int .i64 n] w (PVv 6 B w) := by
 obtain ⟨W, hW⟩ := xE (w.alloc (.cells #[.int .i64 0, .int .i64 0, .string ⟨#[]⟩, .slice none 0 0, .slice none 0 0] 25))
 have hbw : Below w.heap.size w W := by rw [<- hW]; exact alloc_below _ _
 have HR : Hid (Blk W w.heap.size 25 #[.int .i64 0, .int .i64 0, .string ⟨#[]⟩, .slice none 0 0, .slice none 0 0]) := hid (by rw [<- hW]; exact Blk.new _ _ _)
 have Hb := hid hbw
 obtain ⟨pt, hpt⟩ := xE w.heap.size
 rw [hpt] at HR
 clear hbw
 obtain ⟨⟨d0, d1, d2, d3, d4⟩, g0, g1, g2, g3, g4⟩ := blk5_cells HR.out
 go_enter Tryz.func78, Tryz.ntmps78
 go_wp2_with fail
 all_goals (
  refine bodyPost_ret (results_cell_row rfl _ _ pt _ _ (0, 0) _ rfl (blk5_put HR.out) Tryz.underlying25 rfl (by kernel_rfl)) rfl ?_;exact ⟨_, rfl, VdV.flat (Nat.le_refl 6), Hb.out.trans (put5_below (Nat.le_of_eq hpt))⟩)
theorem truth26_any (B : Nat) (b : Bool) (w : World) : Calls Tryz.prog 80 #[.bool b] w (PVv 6 B w) := by
 obtain ⟨W, hW⟩ := xE (w.alloc (.cells #[.int .i64 0, .int .i64 0, .string ⟨#[]⟩, .slice none 0 0, .slice none 0 0] 25))
 have hbw : Below w.heap.size w W := by rw [<- hW]; exact alloc_below _ _
 have HR : Hid (Blk W w.heap.size 25 #[.int .i64 0, .int .i64 0, .string ⟨#[]⟩, .slice none 0 0, .slice none 0 0]) := hid (by rw [<- hW]; exact Blk.new _ _ _)
 have Hb := hid hbw
 obtain ⟨pt, hpt⟩ := xE w.heap.size
 rw [hpt] at HR
 clear hbw
 obtain ⟨⟨d0, d1, d2, d3, d4⟩, g0, g1, g2, g3, g4⟩ := blk5_cells HR.out
 go_enter Tryz.func80, Tryz.ntmps80
 go_wp2_with fail
 all_goals (
  refine bodyPost_ret (results_cell_row rfl _ _ pt _ _ (0, 0) _ rfl (blk5_put HR.out) Tryz.underlying25 rfl (by kernel_rfl)) rfl ?_;exact ⟨_, rfl, VdV.flat (Nat.le_refl 6), Hb.out.trans (put5_below (Nat.le_of_eq hpt))⟩)
end Go.Proofs.YtkcnmjdomipbjaaGreat
