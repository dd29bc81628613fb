import Derived.Deep.QuietTactic
import Derived.BigQuiet
import Derived.Test.YtkcnmjdomipbjaaGreatS26
import Derived.Test.YtkcnmjdomipbjaaGreatS30
set_option linter.unusedVariables false
set_option maxHeartbeats 100000000
set_option maxRecDepth 100000
namespace Go.Proofs.YtkcnmjdomipbjaaGreat
open Go.RowKit
mutual
def Tn.ok : Tn -> Prop
 | .mk k x nm p b e a s u => x.size <= 16384 /\ (∀ c ∈ p, CaOk c) /\ p.length <= 16 /\ tnsOk b /\ tnsOk e
def tnsOk : List Tn -> Prop
 | [] => True
 | t :: r => t.ok /\ tnsOk r
end
mutual
def Tn.num : Tn -> Nat
 | .mk k x nm p b e a s u => 1 + tnsNum b + tnsNum e
def tnsNum : List Tn -> Nat
 | [] => 0
 | t :: r => t.num + tnsNum r
end
theorem tnsOk_iff : ∀ {l : List Tn}, tnsOk l ↔ ∀ t ∈ l, t.ok
 | [] => ⟨fun _ t h => (by cases h), fun _ => (by simp [tnsOk])⟩
 | t :: r => by
  rw [tnsOk, tnsOk_iff (l := r)];simp
theorem tnsOk_snoc {l : List Tn} {t : Tn} (h : tnsOk l) (ht : t.ok) : tnsOk (l ++ [t]) := tnsOk_iff.2 fun q hq => by
 rcases List.mem_append.1 hq with h' | h'
 ·exact tnsOk_iff.1 h q h'
 simp only [List.mem_cons, List.not_mem_nil, or_false] at h'
 subst h'; exact ht
theorem tnsNum_snoc : ∀ (l : List Tn) (t : Tn), tnsNum (l ++ [t]) = tnsNum l + t.num
 | [], t => by simp [tnsNum]
 | q :: l, t => by
  rw [List.cons_append, tnsNum, tnsNum_snoc l t, tnsNum]; omega
theorem Tn.num_pos : ∀ t : Tn, 1 <= t.num
 | .mk k x nm p b e a s u => by rw [Tn.num]; omega
theorem tnsNum_len : ∀ l : List Tn, l.length <= tnsNum l
 | [] => Nat.zero_le _
 | q :: l => by
  have := tnsNum_len l;have := q.num_pos;rw [tnsNum, List.length_cons]; omega
theorem tnRows_snoc (l : List Tn) (t : Tn) : tnRows (l ++ [t]) = tnRows l ++ [t.row] := by simp [tnRows_map]
theorem tnRows_len (l : List Tn) : (tnRows l).length = l.length := by rw [tnRows_map, List.length_map]
def DfIn (base : Nat) (vd : Value) (ds : List Df) (w : World) : Prop := OwnN 0 base w base 75 2 vd (ds.map Df.row) /\ ∀ d ∈ ds, tnsOk d.b /\ tnsNum d.b <= 1024
def IAt (base : Nat) (I : List It) (ad0 : Addr) (c0 : Nat) (w : World) : Prop := RowsN 0 base w 3 (some ad0) (I.map It.row) /\ I.length <= c0 /\ itT I <= 16384 /\ I.length <= 16385
def PK (base pb : Nat) (I : List It) (ad0 : Addr) (c0 k sz : Nat) (vd : Value) (w : World) : Prop := ∃ (AL : Option Addr) (cL : Nat), PIn base pb (I.drop k) sz vd AL cL w /\ (k < I.length -> AL = some (ad0.add (k * 3)) /\ cL + k = c0) /\ k <= I.length
theorem PwAt.up {b b' : Nat} {pw : Pw} {A : Option Addr} {c : Nat} {w : World} (h : PwAt b pw A c w) (hb : b' <= b) : PwAt b' pw A c w := ⟨h.1.up (Nat.le_refl _) hb, h.2⟩
theorem RowsN.putC {lo g sz : Nat} {A : Option Addr} {l : List (List Dt)} {w : World} (h : RowsN 0 lo w sz A l) (hg : g < lo) (o : Nat) (vs : List Value) : RowsN 0 lo (w.setCells g o vs) sz A l := by
 refine RowsV.keep (Nat.le_of_eq (setCells_size vs o w).symm) (fun b hS hl => ?_) l sz A 0 h
 have hne : b ≠ g := by
  rcases hS with h | ⟨h, _⟩ <;> omega
 have e : (w.setCells g o vs).heap[b]? = w.heap[b]? := setCells_far vs o w hne
 exact ⟨hS.keep e, e⟩
theorem PwAt.putC {lo g : Nat} {pw : Pw} {A : Option Addr} {c : Nat} {w : World} (h : PwAt lo pw A c w) (hg : g < lo) (o : Nat) (vs : List Value) : PwAt lo pw A c (w.setCells g o vs) := ⟨h.1.putC hg o vs, h.2⟩
theorem IAt.tf {X : TypeId -> Bool} {base : Nat} {I : List It} {ad0 : Addr} {c0 : Nat} {w w' : World} (h : IAt base I ad0 c0 w) (hf : TF X base w w') (hX : XD X) : IAt base I ad0 c0 w' := ⟨h.1.tf hf hX (Nat.zero_le _), h.2⟩
theorem DfIn.tq {base : Nat} {vd : Value} {ds : List Df} {w w' : World} (h : DfIn base vd ds w) (hf : TF XQ base w w') : DfIn base vd ds w' := ⟨h.1.tf hf XD_XQ (Nat.zero_le _) rfl, h.2⟩
def PNd (base pb : Nat) (I : List It) (ad0 : Addr) (c0 k sz : Nat) (vd : Value) (deep : Nat) (m : Nat) (w : World) (e : Ending) (w' : World) : Prop := ∃ (A : Option Addr) (c : Nat) (ts : List Tn) (B : Option Addr) (c2 : Nat) (pw : Pw) (b : Bool) (k' sz' : Nat) (vd' : Value), e = .returned (.tuple #[.slice A ts.length c, .agg #[.slice B pw.ws.length c2, .string pw.hd, .int .i64 pw.pl], .bool b]) /\ DtN 0 w.heap.size w' (.slice A ts.length c) (.rows 9 (tnRows ts)) /\ tnsOk ts /\ (b = true -> sz + tnsNum ts <= sz' /\ PwAt w.heap.size pw B c2 w') /\ k <= k' /\ sz <= sz' /\ sz' <= 1024 /\ PK base pb I ad0 c0 k' sz' vd' w' /\ TF XP base w w' /\ (0 < deep -> vd' = vd /\ TF XQ base w w') /\ (deep = 0 -> b = true -> ∃ ds', DfIn base vd' ds' w' /\ 0 < ds'.length)
def PBl (base pb : Nat) (I : List It) (ad0 : Addr) (c0 k sz : Nat) (vd : Value) (w : World) (e : Ending) (w' : World) : Prop := ∃ (kd : Int) (Ap Ab Ae : Option Addr) (cp cb ce : Nat) (cs : List Ca) (bs es : List Tn) (pl : Int) (b : Bool) (k' sz' : Nat), e = .returned (.tuple #[.agg #[.int .i64 kd, .string ⟨#[]⟩, .string ⟨#[]⟩, .slice Ap cs.length cp, .slice Ab bs.length cb, .slice Ae es.length ce, .int .i64 pl, .int .i64 0, .int .i64 0], .bool b]) /\ DtN 0 w.heap.size w' (.slice Ap cs.length cp) (.rows 2 (cs.map Ca.row)) /\ DtN 0 w.heap.size w' (.slice Ab bs.length cb) (.rows 9 (tnRows bs)) /\ DtN 0 w.heap.size w' (.slice Ae es.length ce) (.rows 9 (tnRows es)) /\ (Tn.mk kd ⟨#[]⟩ ⟨#[]⟩ cs bs es pl 0 0).ok /\ (b = true -> sz + (Tn.mk kd ⟨#[]⟩ ⟨#[]⟩ cs bs es pl 0 0).num <= sz') /\ k <= k' /\ sz <= sz' /\ sz' <= 1024 /\ PK base pb I ad0 c0 k' sz' vd w' /\ TF XQ base w w'
def PDf (base pb : Nat) (I : List It) (ad0 : Addr) (c0 k sz : Nat) (nd : Nat) (xs : List Value) (w : World) (e : Ending) (w' : World) : Prop := ∃ (b : Bool) (k' sz' : Nat) (vd' : Value), e = .returned (.bool b) /\ k <= k' /\ sz <= sz' /\ sz' <= 1024 /\ PK base pb I ad0 c0 k' sz' vd' w' /\ TF XP base w w' /\ (b = true -> ∃ (x : ByteArray) (ts : List Tn) (A : Option Addr) (c : Nat), w'.ownsRow base 75 2 vd' (nd + 1) (xs ++ [.string x, .slice A ts.length c]) /\ DtN 0 w.heap.size w' (.slice A ts.length c) (.rows 9 (tnRows ts)) /\ tnsOk ts /\ tnsNum ts <= 1024)
def NodesC (base pb : Nat) (I : List It) (ad0 : Addr) (c0 deep k : Nat) : Prop := ∀ (sz : Nat) (vd : Value) (m : Nat) (w : World), sz <= 1024 -> PK base pb I ad0 c0 k sz vd w -> IAt base I ad0 c0 w -> (deep = 0 -> ∃ ds, DfIn base vd ds w /\ ds.length <= m + k /\ 0 < ds.length) -> m <= 1048576 -> Calls Tryz.prog 24 #[.pointer (some ⟨pb, 0, none⟩), .int .i64 (deep : Int)] w (PNd base pb I ad0 c0 k sz vd deep m w)
def BlockC (base pb : Nat) (I : List It) (ad0 : Addr) (c0 deep k : Nat) : Prop := ∀ (kd : Int) (pw : Pw) (n : Nat) (fr : Nat) (A : Option Addr) (c : Nat) (sz : Nat) (vd : Value) (w : World), pw.ws.length = n -> 1 <= n -> fr <= n -> sz <= 1024 -> PK base pb I ad0 c0 k sz vd w -> IAt base I ad0 c0 w -> PwAt base pw A c w -> Calls Tryz.prog 44 #[.pointer (some ⟨pb, 0, none⟩), .int .i64 kd, .agg #[.slice A n c, .string pw.hd, .int .i64 pw.pl], .int .i64 (fr : Int), .int .i64 (deep : Int)] w (PBl base pb I ad0 c0 k sz vd w)
def DefineC (base pb : Nat) (I : List It) (ad0 : Addr) (c0 k : Nat) : Prop := ∀ (pw : Pw) (n : Nat) (A : Option Addr) (c : Nat) (sz : Nat) (vd : Value) (nd : Nat) (xs : List Value) (w : World), pw.ws.length = n -> 1 <= n -> sz <= 1024 -> PK base pb I ad0 c0 k sz vd w -> IAt base I ad0 c0 w -> PwAt base pw A c w -> w.ownsRow base 75 2 vd nd xs -> (∀ j, j < nd -> ∃ nm, xs[j * 2]? = some (.string nm)) -> 0 < nd -> nd <= 2097152 -> Calls Tryz.prog 43 #[.pointer (some ⟨pb, 0, none⟩), .agg #[.slice A n c, .string pw.hd, .int .i64 pw.pl]] w (PDf base pb I ad0 c0 k sz nd xs w)
theorem PK.below {base pb : Nat} {I : List It} {ad0 : Addr} {c0 k sz : Nat} {vd : Value} {w w' : World} (h : PK base pb I ad0 c0 k sz vd w) (hb : Below w.heap.size w w') : PK base pb I ad0 c0 k sz vd w' := by
 obtain ⟨AL, cL, h1, h2⟩ := h
 exact ⟨AL, cL, h1.below hb, h2⟩
theorem PK.lt {base pb : Nat} {I : List It} {ad0 : Addr} {c0 k sz : Nat} {vd : Value} {w : World} (h : PK base pb I ad0 c0 k sz vd w) : base <= pb /\ pb < w.heap.size := by
 obtain ⟨AL, cL, h1, h2⟩ := h
 exact h1.lt
theorem PK.set_ {base pb : Nat} {I : List It} {ad0 : Addr} {c0 k sz : Nat} {vd : Value} {w : World} {g i : Nat} {t : TypeId} {cs : Array Value} (h : PK base pb I ad0 c0 k sz vd w) (hB : Blk w g t cs) (h2 : t ≠ 77) (u : Value) : PK base pb I ad0 c0 k sz vd (w.setCell ⟨g, i, none⟩ u) := by
 obtain ⟨AL, cL, h1, h3⟩ := h
 exact ⟨AL, cL, h1.set_ hB h2 u, h3⟩
theorem PK.putC {base pb : Nat} {I : List It} {ad0 : Addr} {c0 k sz : Nat} {vd : Value} {w : World} {g : Nat} {t : TypeId} {cs : Array Value} (h : PK base pb I ad0 c0 k sz vd w) (hB : Blk w g t cs) (h2 : t ≠ 77) (o : Nat) (vs : List Value) : PK base pb I ad0 c0 k sz vd (w.setCells g o vs) := by
 obtain ⟨AL, cL, h1, h3⟩ := h
 exact ⟨AL, cL, h1.putC hB h2 o vs, h3⟩
theorem PK.drew {base pb : Nat} {I : List It} {ad0 : Addr} {c0 k sz : Nat} {vd : Value} {w : World} (h : PK base pb I ad0 c0 k sz vd w) : PK base pb I ad0 c0 k sz vd w.drew := h.below (Below.refl _ _).drew
def PFk (base pb : Nat) (I : List It) (ad0 : Addr) (c0 k sz : Nat) (vd : Value) (w : World) (e : Ending) (w' : World) : Prop := e = .returned (.bool false) /\ PK base pb I ad0 c0 k sz vd w' /\ TF XQ base w w'
theorem failK (base pb : Nat) (I : List It) (ad0 : Addr) (c0 k sz : Nat) (vd : Value) (a b : Int) (w : World) (h : PK base pb I ad0 c0 k sz vd w) : Calls Tryz.prog 42 #[.pointer (some ⟨pb, 0, none⟩), .int .i64 a, .int .i64 b] w (PFk base pb I ad0 c0 k sz vd w) := by
 obtain ⟨AL, cL, h1, h3⟩ := h
 refine (fail20_any base pb (I.drop k) sz vd AL cL a b w h1).mono ?_
 rintro e w1 ⟨he, hp, ht⟩
 exact ⟨he, ⟨AL, cL, hp, h3⟩, ht⟩
mutual
def Tn.dep : Tn -> Nat
 | .mk k x nm p b e a s u => 1 + max (tnsDep b) (tnsDep e)
def tnsDep : List Tn -> Nat
 | [] => 0
 | t :: r => max t.dep (tnsDep r)
end
theorem tnsDep_snoc : ∀ (l : List Tn) (t : Tn), tnsDep (l ++ [t]) = max (tnsDep l) t.dep
 | [], t => by simp [tnsDep]
 | q :: l, t => by
  rw [List.cons_append, tnsDep, tnsDep_snoc l t, tnsDep]; omega
theorem tnsDep_le : ∀ l : List Tn, (∀ t ∈ l, t.dep <= t.num) -> tnsDep l <= tnsNum l
 | [], _ => Nat.le_refl _
 | t :: r, h => by
  have h1 := h t (by simp);have h2 := tnsDep_le r fun q hq => h q (List.mem_cons_of_mem _ hq)
  rw [tnsDep, tnsNum]; omega
theorem tnsNum_mem : ∀ {l : List Tn} {t : Tn}, t ∈ l -> t.num <= tnsNum l
 | q :: l, t, h => by
  rw [tnsNum];rcases List.mem_cons.1 h with rfl | h
  ·omega
  have := tnsNum_mem h; omega
theorem dep_le_both : ∀ n, (∀ t : Tn, t.num <= n -> t.dep <= t.num)
 | 0, t, h => by have := t.num_pos; omega
 | n + 1, .mk k x nm p b e a s u, h => by
  rw [Tn.num] at h ⊢;have hb := tnsDep_le b fun t ht => dep_le_both n t (by have := tnsNum_mem ht; omega)
  have he := tnsDep_le e fun t ht => dep_le_both n t (by have := tnsNum_mem ht; omega)
  rw [Tn.dep]; omega
theorem dep_le (l : List Tn) : tnsDep l <= tnsNum l := tnsDep_le l fun t _ => dep_le_both t.num t (Nat.le_refl _)
theorem rowTn {w : World} {S : Nat -> Prop} {A : Option Addr} {l : List Tn} (h : RowsV w S 9 A 0 (tnRows l)) {k : Nat} (hk : k < l.length) : ∃ ad, A = some ad /\ ad.block < w.heap.size /\ RowV w S (ad.add (k * 9)) 0 (l[k]).row := by
 rw [tnRows_map] at h
 obtain ⟨ad, e, _, h2, h3⟩ := RowsV.get h hk
 exact ⟨ad, e, h2, h3⟩
def PDep (l : List Tn) (w : World) (e : Ending) (w' : World) : Prop := e = .returned (.int .i64 (tnsDep l : Int)) /\ ∃ m, w' = w.drewN m
theorem depth_any : ∀ (N : Nat) (l : List Tn) (n : Nat) (hn : l.length = n) (hN : tnsNum l <= N) (hz : N <= 1048576) (A : Option Addr) (c : Nat) (w : World) (hr : RowsV w (fun _ => True) 9 A 0 (tnRows l)), Calls Tryz.prog 29 #[.slice A n c] w (PDep l w) := by
 intro N
 induction N with
 | zero =>
  intro l n hn hN hz A c w hr;obtain rfl : l = [] := List.eq_nil_of_length_eq_zero (by have := tnsNum_len l; omega);obtain rfl : n = 0 := hn.symm;go_enter Tryz.func29, Tryz.ntmps29;go_wp2_with fail
  go_loopw [3, 4] (fun d i wr => d = .int .i64 0 /\ i = .int .i64 0 /\ wr = w) (fun _ _ _ => 0)
  case atStart => exact ⟨rfl, rfl, rfl⟩
  obtain ⟨rfl, rfl, hwr⟩ := hrel;obtain rfl := hwr;go_wp2_with fail
  go_ret;exact ⟨by simp [tnsDep], 0, rfl⟩
 | succ N ih =>
  intro l n hn hN hz A c w hr;have HIH := hid ih;have Hr := hid hr;have Hn := hid hn;have hnz : n <= 1048576 := by have := tnsNum_len l; omega
  have hNum := hN;clear ih hr hn;go_enter Tryz.func29, Tryz.ntmps29;go_wp2_with fail
  go_loopw [3, 4] (fun d i wr => ∃ j : Nat, j <= n /\ i = .int .i64 (j : Int) /\ d = .int .i64 (tnsDep (l.take j) : Int) /\ ∃ m, wr = w.drewN m) (fun _ i _ => n - (intOf i).toNat)
  case atStart => exact ⟨0, Nat.zero_le _, rfl, by simp [tnsDep], 0, rfl⟩
  obtain ⟨j, hj, rfl, rfl, m, hm⟩ := hrel;have Hm := hid hm;clear hm;by_cases hlt : j < n
  ·have hli : (j : Int) < (n : Int) := by omega
   have hj0 : (0 : Int) <= (j : Int) := by omega
   have hjl : j < l.length := by have := Hn.out; omega
   obtain ⟨ad, rfl, hadl, hrow⟩ := rowTn (RowsV.below (w' := wr) Hr.out (by rw [Hm.out]; exact below_drewN (Below.refl _ _) m)) hjl;have hsn : l.take (j + 1) = l.take j ++ [l[j]] := (List.take_append_getElem hjl).symm;obtain ⟨t, ht⟩ := xE l[j];have htn := tnsNum_mem (List.getElem_mem hjl);rw [ht] at hrow hsn htn;obtain ⟨kk, xx, nm, pp, bb, ee, aa, ss, uu⟩ := t;obtain ⟨nb, hnb⟩ := xE bb.length;obtain ⟨ne, hne⟩ := xE ee.length;obtain ⟨Ap, cp, Ab, cb, Ae, ce, _, _, _, _, t4, t5, _, _, _, _, rb, re⟩ := Tn.at_ hrow rfl hnb hne;rw [Tn.num] at htn;have HB := hid (fun W (h : RowsV W (fun _ => True) 9 Ab 0 (tnRows bb)) => HIH.out bb nb hnb (by omega) (by omega) Ab cb W h);have HE := hid (fun W (h : RowsV W (fun _ => True) 9 Ae 0 (tnRows ee)) => HIH.out ee ne hne (by omega) (by omega) Ae ce W h);have Rb := hid rb;have Re := hid re;have hd1 : tnsDep bb <= 1048576 := by have := dep_le bb; omega
   have hd2 : tnsDep ee <= 1048576 := by have := dep_le ee; omega
   have Hs := hid hsn;clear hrow rb re hnb hne htn ht hsn;go_upto_region 5 with fail
   go_quiet (first
    | (go_at_call_of 29 Ab; refine Calls.quiet_of (HB.out _ ?_); exact RowsV.below Rb.out (below_drewN (Below.refl _ _) _))
    | (go_at_call_of 29 Ae; refine Calls.quiet_of (HE.out _ ?_); exact RowsV.below Re.out (below_drewN (Below.refl _ _) _)))
   go_wp2_with fail
   go_roundw
   case rel => exact ⟨j + 1, by omega, by go_num, by rw [Hs.out, tnsDep_snoc, Tn.dep]; refine congrArg _ ?_; (repeat' split) <;> omega, m + nq, by rw [Hm.out]; simp⟩
   simp [intOf]; omega
  obtain rfl : j = n := by omega
  go_wp2_with fail
  go_ret;refine ⟨?_, m, Hm.out⟩;have := Hn.out
  first
   | rfl
   | simp [List.take_of_length_le, this]
def findD : List Df -> ByteArray -> Nat -> Int
 | [], _, _ => -1
 | d :: r, s, i => if (d.nm.toList == s.toList) = true then (i : Int) else findD r s (i + 1)
theorem findD_lt : ∀ (l : List Df) (s : ByteArray) (i : Nat), findD l s i = -1 ∨ ∃ j : Nat, findD l s i = (j : Int) /\ i <= j /\ j < i + l.length
 | [], _, _ => .inl rfl
 | d :: r, s, i => by
  unfold findD;split
  ·exact .inr ⟨i, rfl, Nat.le_refl _, by simp⟩
  rcases findD_lt r s (i + 1) with h | ⟨j, h1, h2, h3⟩
  ·exact .inl h
  exact .inr ⟨j, h1, by omega, by simp only [List.length_cons]; omega⟩
def PFi22 (l : List Df) (s : ByteArray) (w : World) (e : Ending) (w' : World) : Prop := e = .returned (.int .i64 (findD l s 0)) /\ w' = w
theorem find22_any {S : Nat -> Prop} (l : List Df) (n : Nat) (hn : l.length = n) (hnz : n <= 9223372036854775807) (A : Option Addr) (c : Nat) (s : ByteArray) (w : World) (hr : RowsV w S 2 A 0 (l.map Df.row)) : Calls Tryz.prog 50 #[.slice A n c, .string s] w (PFi22 l s w) := by
 have Hr := hid hr
 have Hn := hid hn
 clear hr hn
 go_enter Tryz.func50, Tryz.ntmps50
 go_wp2_with fail
 go_loopw [5] (fun i wr => ∃ j : Nat, j <= n /\ i = .int .i64 (j : Int) /\ findD l s 0 = findD (l.drop j) s j /\ wr = w) (fun i _ => n - (intOf i).toNat)
 case atStart => exact ⟨0, Nat.zero_le _, rfl, rfl, rfl⟩
 obtain ⟨j, hj, rfl, hf, hwr⟩ := hrel
 obtain rfl := hwr
 have Hf := hid hf
 clear hf
 by_cases hlt : j < n
 ·have hli : (j : Int) < (n : Int) := by omega
  have hjl : j < l.length := by have := Hn.out; omega
  obtain ⟨ad, rfl, _, _, hrow⟩ := RowsV.get Hr.out hjl;obtain ⟨d, hd⟩ := xE l[j];have Hdr : Hid (l.drop j = d :: l.drop (j + 1)) := hid (by rw [<- hd]; exact List.drop_eq_getElem_cons hjl);rw [hd] at hrow;obtain ⟨nm, bd⟩ := d;have a0 := (Df.at_ hrow rfl).1;simp only at a0;clear hrow hd;obtain ⟨qn, hqn⟩ := xE (nm.toList == s.toList);have Hqn := hid hqn;cases qn
  ·go_wp2_with fail
   go_roundw
   case rel => exact ⟨j + 1, by omega, by go_num, by rw [Hf.out, Hdr.out, findD, if_neg (by rw [Hqn.out]; decide)], by first | rfl | trivial⟩
   simp [intOf]; omega
  go_wp2_with fail
  go_ret;exact ⟨by rw [Hf.out, Hdr.out, findD, if_pos Hqn.out]; rfl, rfl⟩
 obtain rfl : j = n := by omega
 go_wp2_with fail
 go_ret
 exact ⟨by rw [Hf.out, List.drop_of_length_le (by have := Hn.out; omega)]; rfl, rfl⟩
theorem in22_any {S : Nat -> Prop} (l : List ByteArray) (n : Nat) (hn : l.length = n) (hnz : n <= 9223372036854775807) (A : Option Addr) (c : Nat) (s : ByteArray) (w : World) (hr : RowsV w S 1 A 0 (strRows l)) : Calls Tryz.prog 59 #[.slice A n c, .string s] w (PB w) := by
 have Hr := hid hr
 have Hn := hid hn
 clear hr hn
 go_enter Tryz.func59, Tryz.ntmps59
 go_wp2_with fail
 go_loopw [5] (fun i wr => ∃ j : Nat, j <= n /\ i = .int .i64 (j : Int) /\ wr = w) (fun i _ => n - (intOf i).toNat)
 case atStart => exact ⟨0, Nat.zero_le _, rfl, rfl⟩
 obtain ⟨j, hj, rfl, hwr⟩ := hrel
 obtain rfl := hwr
 by_cases hlt : j < n
 ·have hli : (j : Int) < (n : Int) := by omega
  have hjl : j < l.length := by have := Hn.out; omega
  obtain ⟨ad, rfl, _, _, hrow⟩ := RowsV.get (f := fun x => [Dt.str x]) Hr.out hjl;obtain ⟨d, hd⟩ := xE l[j];rw [hd] at hrow;have a0 := Str.at_ hrow;simp only [Nat.mul_one] at a0;clear hrow hd;obtain ⟨qn, hqn⟩ := xE (d.toList == s.toList);cases qn
  ·go_wp2_with fail
   go_roundw
   case rel => exact ⟨j + 1, by omega, by go_num, by first | rfl | trivial⟩
   simp [intOf]; omega
  go_wp2_with fail
  go_ret;exact ⟨true, rfl, rfl⟩
 obtain rfl : j = n := by omega
 go_wp2_with fail
 go_ret
 exact ⟨false, rfl, rfl⟩
section
variable {xs : List Value} {base pb : Nat} {its : List It} {sz : Nat} {vd : Value} {AL : Option Addr} {cL : Nat} {w w' : World}
theorem PIn.cells (h : PIn base pb its sz vd AL cL w) : w.cell? ⟨pb, 0, none⟩ = some (.slice AL its.length cL) /\ (∃ len, w.cell? ⟨pb, 2, none⟩ = some (.int .i64 len)) /\ w.cell? ⟨pb, 3, none⟩ = some vd /\ w.frozen? ⟨pb, 0, none⟩ = false /\ w.frozen? ⟨pb, 3, none⟩ = false := by
 obtain ⟨len, at_, er, h1, h2⟩ := h
 unfold PBk at h1
 exact ⟨(h1.cell 0).trans rfl, ⟨len, (h1.cell 2).trans rfl⟩, (h1.cell 3).trans rfl, h1.frozen 0, h1.frozen 3⟩
theorem PIn.blk (h : PIn base pb its sz vd AL cL w) : ∃ cs, Blk w pb 77 cs := by
 obtain ⟨len, at_, er, h1, h2⟩ := h
 exact ⟨_, h1⟩
theorem PIn.defs (h : PIn base pb its sz vd AL cL w) (v : Value) : PIn base pb its sz v AL cL (w.setCell ⟨pb, 3, none⟩ v) := by
 obtain ⟨len, at_, er, h1, h2⟩ := h
 have := Blk.set_ h1 3 v
 simp only [List.setIfInBounds_toArray, List.set_cons_zero, List.set_cons_succ] at this
 exact ⟨len, at_, er, this, h2⟩
theorem PIn.pieces (h : PIn base pb its sz vd AL cL w) (its' : List It) (A : Option Addr) (c : Nat) : PIn base pb its' sz vd A c (w.setCell ⟨pb, 0, none⟩ (.slice A its'.length c)) := by
 obtain ⟨len, at_, er, h1, h2⟩ := h
 have := Blk.set_ h1 0 (.slice A its'.length c)
 simp only [List.setIfInBounds_toArray, List.set_cons_zero] at this
 exact ⟨len, at_, er, this, h2⟩
theorem own_block (h : w.ownsRow base 75 2 vd sz xs) : ∀ g, vd.ownBlock = some g -> ∃ cs, w.heap[g]? = some (.cells cs 75 (0, 0)) := fun g hg => by
 rcases h.2 with ⟨rfl, _⟩ | ⟨g', cap, cur, rfl, hb, hg', h4⟩
 ·cases hg
 have : g' = g := by simpa [Value.ownBlock] using hg
 subst this
 exact ⟨cur, hg'⟩
theorem own_same (h : w.ownsRow base 75 2 vd sz xs) (hs : ∀ g cur, vd.ownBlock = some g -> w.heap[g]? = some (.cells cur 75 (0, 0)) -> w'.heap[g]? = w.heap[g]?) : w'.ownsRow base 75 2 vd sz xs := by
 refine ⟨h.1, ?_⟩
 rcases h.2 with h0 | ⟨g, cap, cur, rfl, hb, hg, h4⟩
 ·exact .inl h0
 exact .inr ⟨g, cap, cur, rfl, hb, (hs g cur rfl hg).trans hg, h4⟩
theorem own_tf (h : w.ownsRow base 75 2 vd sz xs) {b1 : Nat} (hf : TF XQ b1 w w') : w'.ownsRow base 75 2 vd sz xs :=
 own_same h fun g cur hg hc => hf.block g (h.lt g hg).2 (.inr ⟨_, _, _, hc, rfl⟩)
theorem PIn.grownC (h : PIn base pb its sz vd AL cL w) {b1 n : Nat} {v : Value} {xs : List Value} (hO : w.ownsRow b1 75 2 v n xs) (hg : w.grownBy w' v.ownBlock) : PIn base pb its sz vd AL cL w' := by
 obtain ⟨len, at_, er, h1, h2⟩ := h
 refine ⟨len, at_, er, Blk.grown h1 hg fun e => ?_, h2⟩
 obtain ⟨cs, hc⟩ := own_block hO pb e.symm
 exact Blk.ne_ h1 hc (by decide) rfl
theorem PIn.grown (h : PIn base pb its sz vd AL cL w) {lo b1 n : Nat} {e : TypeId} {v : Value} {l : List (List Dt)} (hO : OwnN 0 lo w b1 e n v l) (he : e ≠ 77) (hg : w.grownBy w' v.ownBlock) : PIn base pb its sz vd AL cL w' := by
 obtain ⟨len, at_, er, h1, h2⟩ := h
 refine ⟨len, at_, er, Blk.grown h1 hg fun e => ?_, h2⟩
 obtain ⟨cs, hc⟩ := hO.typed pb e.symm
 exact Blk.ne_ h1 hc (fun e => he e.symm) rfl
theorem Blk.apart {g : Nat} {t e : TypeId} {cs : Array Value} (h : Blk w g t cs) {lo b1 n : Nat} {v : Value} {l : List (List Dt)} (hO : OwnN 0 lo w b1 e n v l) (he : t ≠ e) (hg : w.grownBy w' v.ownBlock) : Blk w' g t cs :=
 Blk.grown h hg fun k => by
  obtain ⟨cs, hc⟩ := hO.typed g k.symm;exact Blk.ne_ h hc he rfl
end
theorem wpl_pushC {ops : Array Oper} {rest : List Oper} {o : Oper} {a : Act} {Q : Exit -> Act -> World -> Prop} {W : World} (hgd : o.guard = none) (s x : Operand) {t e : TypeId} {sz n base : Nat} {v : Value} {xs us : List Value}
  (ho : o.op = .call { callee := .builtin .append, args := #[s, x], argTypes := #[t, t] })
  (ht : Tryz.prog.underlying t = some (.slice e)) (hI : infoOk (Tryz.prog.info? e) sz = true)
  (H : W.ownsRow base e sz v n xs) (hs : a.eval s = v) (hul : us.length = sz) (hone : ∀ u ∈ us, u.oneCell' = true) (hx : a.eval x = .slice (some ⟨W.heap.size, 0, none⟩) 1 1)
  (hn : n <= 1099511627776 / 16) (hbase : base <= W.heap.size)
  (h : ∀ v' w', w'.ownsRow base e sz v' (n + 1) (xs ++ us) -> Below base W w' -> (v'.ownBlock = v.ownBlock ∨ ∃ g, v'.ownBlock = some g /\ W.heap.size < g) -> W.grownBy w' v.ownBlock -> wpList Tryz.prog ops Q rest (a.put o.dst v') w') : wpList Tryz.prog ops Q (o :: rest) a (W.alloc (.cells us.toArray e)) := by
 obtain ⟨i0, z, hi, hz, hsize, hby2, hzs, hsz⟩ := info_of hI
 have hal : Below W.heap.size W (W.alloc (.cells us.toArray e)) := (Below.refl _ _).alloc (Nat.le_refl _) _
 have h1 : (W.alloc (.cells us.toArray e)).ownsRow base e sz v n xs := by
  refine ⟨H.1, ?_⟩;rcases H.2 with h0 | ⟨g, cap, cur, rfl, hb, hg, h4⟩
  ·exact .inl h0
  exact .inr ⟨g, cap, cur, rfl, hb, (hal.block g (H.lt g rfl).2).trans hg, h4⟩
 have hcell : ∀ j u, us[j]? = some u -> (W.alloc (.cells us.toArray e)).cell? ((⟨W.heap.size, 0, none⟩ : Addr).add j) = some u := fun j u hu => by
  rw [Addr.add_lit, Nat.zero_add, World.cell?_alloc_mark]
  simpa using hu
 refine wpList_append_any (P := Tryz.prog) _ hgd s x t ho base e i0 z sz i0.bytes ht hi hz hsize rfl hzs hsz v n xs hs h1 (W.heap.size + 1) (some ⟨W.heap.size, 0, none⟩) 1 1 us hx ⟨by rw [hul, Nat.one_mul], fun _ => ⟨_, rfl, Nat.lt_succ_self _, hcell⟩⟩ hone (by unfold maxLen; omega) ?_ (by simp; omega) ?_
 ·have : (n + 1) * i0.bytes <= (n + 1) * 1000 := Nat.mul_le_mul_left _ hby2;omega
 intro v' w' h4 h5 h6
 have h5' : W.grownBy w' v.ownBlock := by
  refine ⟨h5.os.trans hal.os, h5.tape.trans hal.tape, h5.output.trans hal.output, Nat.le_trans hal.size h5.size, fun k hk hne => (h5.block k (Nat.lt_of_lt_of_le hk hal.size) hne).trans (hal.block k hk)⟩
 refine h v' w' h4 ?_ ?_ h5'
 ·exact (hal.mono hbase).trans ((Below.refl base _).grown h5 (Nat.le_trans hbase hal.size) fun k hk => (World.ownsRow.lt h1 k hk).1)
 rcases h6 with e | e
 ·exact .inl e
 exact .inr ⟨_, e, by simp⟩
theorem calledK (base pb : Nat) (I : List It) (ad0 : Addr) (c0 k sz : Nat) (vd : Value) (pw : Pw) (n : Nat) (hn : pw.ws.length = n) (A : Option Addr) (c : Nat) (w : World) (h : PK base pb I ad0 c0 k sz vd w) (hw : PwAt base pw A c w) : Calls Tryz.prog 57 #[.pointer (some ⟨pb, 0, none⟩), .agg #[.slice A n c, .string pw.hd, .int .i64 pw.pl]] w (fun e w' => ∃ (x : ByteArray) (b : Bool), e = .returned (.tuple #[.string x, .bool b]) /\ PK base pb I ad0 c0 k sz vd w' /\ TF XQ base w w') := by
 obtain ⟨AL, cL, h1, h3⟩ := h
 refine (called_any base pb (I.drop k) sz vd AL cL pw n hn A c w h1 hw).mono ?_
 rintro e w1 ⟨x, b, he, _, hp, ht⟩
 exact ⟨x, b, he, ⟨AL, cL, hp, h3⟩, ht⟩
theorem define_any (base pb : Nat) (I : List It) (ad0 : Addr) (c0 k0 : Nat) (hN : NodesC base pb I ad0 c0 1 k0) : DefineC base pb I ad0 c0 k0 := by
 intro pw n A c sz vd nd xs w hn h1n hsz h hI hw hO hnm hd0 hnz
 obtain ⟨ws, hd, pl⟩ := pw
 simp only at hn ⊢
 obtain ⟨w0, hw0⟩ := xE (w.alloc (.cells #[.slice A n c, .string hd, .int .i64 pl] 80))
 have hbw : Below w.heap.size w w0 := by rw [<- hw0]; exact alloc_below _ _
 have HS : Hid (Blk w0 w.heap.size 80 #[.slice A n c, .string hd, .int .i64 pl]) := hid (by rw [<- hw0]; exact Blk.new _ _ _)
 have HN := hid hN
 have HI := hid hI
 have HT0 := hid ((TF.of_below hbw : TF XQ base w w0))
 have HC := hid (calledK base pb I ad0 c0 k0 sz vd ⟨ws, hd, pl⟩ n hn A c w0 (h.below hbw) (hw.below hbw))
 have HD := hid (own_same (w' := w0) hO fun g _ hg _ => hbw.block g (hO.lt g hg).2)
 have Hnm := hid hnm
 have hbl := h.lt
 have Hn := hid hn
 obtain ⟨pt, hpt⟩ := xE w.heap.size
 rw [hpt] at HS hbl
 clear hN hI h hw hO hnm hn hbw
 obtain ⟨⟨c0_, c1_, c2_⟩, _⟩ := blk3_cells HS.out
 go_enter Tryz.func43, Tryz.ntmps43
 go_upto_if 18 with (go_at_call 57; refine HC.out.mono ?_; rintro e w1 ⟨x, b, rfl, hp, ht⟩)
 clear hw0 c0_ c1_ c2_ HC
 have HP1 := hid hp
 have HT1 := hid (HT0.out.trans ht)
 have HS1 := hid (HS.out.tf ht rfl)
 have HD1 := hid (own_tf HD.out ht)
 clear hp ht HT0 HS HD
 cases b
 ·go_wp2_with fail
  go_ret;exact ⟨false, k0, sz, vd, rfl, Nat.le_refl _, Nat.le_refl _, hsz, HP1.out, HT1.out.xp, fun h => by cases h⟩
 obtain ⟨⟨c0_, _, c2_⟩, _⟩ := blk3_cells HS1.out
 have HF := hid (fun a b Wx hp => failK base pb I ad0 c0 k0 sz vd a b Wx hp)
 rcases (show n ≠ 2 ∨ n = 2 by omega) with hn2 | hn2
 ·have hn2i : ((n : Int) != 2) = true := bne_iff_ne.2 (by omega);go_wp2_with (go_at_call 42; refine (HF.out _ _ _ HP1.out).mono ?_; rintro e w3 ⟨rfl, hp3, ht3⟩)
  go_ret;exact ⟨false, k0, sz, vd, rfl, Nat.le_refl _, Nat.le_refl _, hsz, hp3, (HT1.out.trans ht3).xp, fun h => by cases h⟩
 subst hn2
 obtain ⟨gv, cd, rfl, hgv, hgvl⟩ := HD1.out.form hd0
 obtain ⟨AL, cL, hp, hside⟩ := HP1.out
 have HPi := hid hp
 have Hside := hid hside
 clear hp hside
 obtain ⟨_, _, p3, _, q3⟩ := HPi.out.cells
 go_wp2_with fail
 go_loopw [7] (fun i wr => ∃ j : Nat, j <= nd /\ i = .int .i64 (j : Int) /\ wr = w1) (fun i _ => nd - (intOf i).toNat)
 case atStart => exact ⟨0, Nat.zero_le _, rfl, rfl⟩
 obtain ⟨j, hj, rfl, hwr⟩ := hrel
 obtain rfl := hwr
 by_cases hlt : j < nd
 ·have hli : (j : Int) < (nd : Int) := by omega
  obtain ⟨nm, hnmj⟩ := Hnm.out j hlt;have a0 : wr.cell? ⟨gv, j * 2, none⟩ = some (.string nm) := (HD1.out.cellAt (j * 2) (by omega)).trans hnmj;obtain ⟨qn, hqn⟩ := xE (nm.toList == x.toList);cases qn
  ·go_wp2_with fail
   go_roundw
   case rel => exact ⟨j + 1, by omega, by go_num, by first | rfl | trivial⟩
   simp [intOf]; omega
  go_wp2_with (go_at_call 42; refine (HF.out _ _ _ HP1.out).mono ?_; rintro e w3 ⟨rfl, hp3, ht3⟩)
  go_ret;exact ⟨false, k0, sz, _, rfl, Nat.le_refl _, Nat.le_refl _, hsz, hp3, (HT1.out.trans ht3).xp, fun h => by cases h⟩
 obtain rfl : j = nd := by omega
 have HO := hid HD1.out
 have hbs := hbl.2
 have hs1 := HT1.out.size
 rw [hpt] at hs1
 go_upto_region 13 with (at_builtin; refine wpl_pushC rfl _ _ rfl Tryz.underlying53 info_Def HO.out rfl (us := [.string x, .slice none 0 0]) rfl (fun u hu => by simp only [List.mem_cons, List.not_mem_nil, or_false] at hu; rcases hu with rfl | rfl <;> rfl) rfl (by omega) (by omega) ?_; intro v1 w2 hO2 hb2 _ hg2; obtain ⟨gd, c2, rfl, hgd, _⟩ := hO2.form (Nat.succ_pos _); have HO2 := hid hO2; have HPi2 := hid (HPi.out.grownC HO.out hg2); have HS2 := hid (HS1.out.grown hg2 (fun e => by obtain ⟨cs, hc⟩ := own_block HO.out _ e.symm; exact Blk.ne_ HS1.out hc (by decide) rfl)); have HT2 := hid (HT1.out.xp.grown hg2 (fun g hg => by obtain ⟨cs, hc⟩ := own_block HO.out g hg; exact .inr ⟨(HO.out.lt g hg).1, _, _, _, hc, rfl⟩)); clear hO2 hb2 hg2 p3 q3; obtain ⟨_, _, p3, _, q3⟩ := HPi2.out.cells)
 obtain ⟨w3, hw3⟩ := xE (w2.setCell ⟨pb, 3, none⟩ (.slice (some ⟨gd, 0, none⟩) (j + 1) c2))
 have HPi3 : Hid (PIn base pb (I.drop k0) sz (.slice (some ⟨gd, 0, none⟩) (j + 1) c2) AL cL w3) := hid (by rw [<- hw3]; exact HPi2.out.defs _)
 have HS3 : Hid (Blk w3 pt 80 #[.slice A 2 c, .string hd, .int .i64 pl]) := hid (by rw [<- hw3]; exact HS2.out.far (p := ⟨pb, 3, none⟩) (by show pt ≠ pb; omega) _)
 have HT3 : Hid (TF XP base w w3) := hid (by
  obtain ⟨cs, hB⟩ := HPi2.out.blk;rw [<- hw3]; exact HT2.out.setCell (p := ⟨pb, 3, none⟩) (hB.mayT rfl hbl.1) _)
 have HO3 : Hid (w3.ownsRow base 75 2 (.slice (some ⟨gd, 0, none⟩) (j + 1) c2) (j + 1) (xs ++ [.string x, .slice none 0 0])) := hid (by
  obtain ⟨cs, hB⟩ := HPi2.out.blk;rw [<- hw3];exact own_same HO2.out fun g cur hg hc => Below.heap_setCell w2 _ _ g (by rintro rfl; exact Blk.ne_ hB hc (by decide) rfl))
 rw [hw3]
 have hlt3 := HS3.out.lt
 clear hw3 HPi2 HS2 HT2 HO2 HPi HS1 HO p3 q3 HP1 HD1 c0_ c2_ hlt
 have HNc := hid (HN.out sz (.slice (some ⟨gd, 0, none⟩) (j + 1) c2) 0 w3 hsz ⟨AL, cL, HPi3.out, Hside.out⟩ (HI.out.tf HT3.out XD_XP) (fun h => absurd h (by decide)) (Nat.zero_le _))
 rw [show ((1 : Nat) : Int) = 1 from rfl] at HNc
 go_upto_if 73 with (go_at_call 24; refine HNc.out.mono ?_; rintro e w4 ⟨A1, c1, ts, B1, c3, pw3, b, k', sz', vd', rfl, hd4, hok4, hb4, hk4, hs4, hm4, hp4, _, hq, _⟩; obtain ⟨rfl, ht⟩ := hq (Nat.succ_pos _))
 clear HNc HN HF
 obtain ⟨AL4, cL4, hp4, hside4⟩ := hp4
 obtain ⟨w5, hw5⟩ := xE (w4.alloc (.cells #[.slice B1 pw3.ws.length c3, .string pw3.hd, .int .i64 pw3.pl] 80))
 have hal : Below w4.heap.size w4 w5 := by rw [<- hw5]; exact alloc_below _ _
 have HE5 : Hid (Blk w5 w4.heap.size 80 #[.slice B1 pw3.ws.length c3, .string pw3.hd, .int .i64 pw3.pl]) := hid (by rw [<- hw5]; exact Blk.new _ _ _)
 have HPi5 := hid (hp4.below hal)
 have HT5 := hid ((HT3.out.trans ht.xp).below hal)
 have HO5 := hid (own_same (w' := w5) (own_tf HO3.out ht) fun g _ hg _ => hal.block g ((own_tf HO3.out ht).lt g hg).2)
 have HDt5 := hid (hd4.below hal)
 have hs45 := ht.size
 rw [hw5]
 obtain ⟨ge, hge⟩ := xE w4.heap.size
 rw [hge] at HE5 hs45 ⊢
 have HO3l := hid (fun g hg => (HO3.out.lt g hg).2)
 have Hok4 := hid hok4
 clear hw5 hal hge hp4 hd4 HPi3 HS3 HT3 HO3 hok4
 cases b
 ·go_wp2_with fail
  go_ret;exact ⟨false, k', sz', _, rfl, hk4, hs4, hm4, ⟨AL4, cL4, HPi5.out, hside4⟩, HT5.out, fun h => by cases h⟩
 obtain ⟨⟨_, e1, e2⟩, _⟩ := blk3_cells HE5.out
 obtain ⟨qe, hqe⟩ := xE (pw3.hd.toList == [101, 110, 100])
 cases qe
 ·have HF5 := hid (fun a b => failK base pb I ad0 c0 k' sz' (.slice (some ⟨gd, 0, none⟩) (j + 1) c2) a b w5 ⟨AL4, cL4, HPi5.out, hside4⟩);go_wp2_with (go_at_call 42; refine (HF5.out _ _).mono ?_; rintro e w6 ⟨rfl, hp6, ht6⟩)
  go_ret;exact ⟨false, k', sz', _, rfl, hk4, hs4, hm4, hp6, HT5.out.trans ht6.xp, fun h => by cases h⟩
 obtain ⟨_, _, p3, _, q3⟩ := HPi5.out.cells
 have hxl : xs.length = j * 2 := by
  have := HO5.out.1;rw [List.length_append] at this;simp only [List.length_cons, List.length_nil] at this;omega
 have f1 : w5.frozen? ⟨gd, j * 2 + 1, none⟩ = false := HO5.out.frozenAt _
 have a1' : w5.cell? ⟨gd, j * 2 + 1, none⟩ = some (.slice none 0 0) := (HO5.out.cellAt (j * 2 + 1) (by omega)).trans (by rw [List.getElem?_append_right (by omega), hxl]; simp)
 have Hxl := hid hxl
 clear hxl
 have hji : (j : Int) < (j : Int) + 1 := by omega
 go_wp2_with fail
 go_ret
 obtain ⟨cs, hcs⟩ := own_block HO5.out gd rfl
 have hst := (HO5.out.stored (j * 2 + 1) (.slice A1 ts.length c1)).1
 have hgl := (HO3l.out gd rfl)
 refine ⟨true, k', sz', _, rfl, hk4, hs4, hm4, ⟨AL4, cL4, HPi5.out.set_ hcs (by decide) _, hside4⟩, HT5.out.setCell (p := ⟨gd, j * 2 + 1, none⟩) (.inr ⟨hgd, _, _, _, hcs, rfl⟩) _, fun _ => ⟨x, ts, A1, c1, ?_, DtN.up (HDt5.out.far (p := ⟨gd, j * 2 + 1, none⟩) (Nat.zero_le _) hgl _) (Nat.le_refl _) (by omega), Hok4.out, by have := (hb4 trivial).1; omega⟩⟩
 rw [List.set_append_right _ _ (by have := Hxl.out; omega), Hxl.out, show j * 2 + 1 - j * 2 = 1 by omega] at hst
 exact hst
theorem tag9_any (el at_ : ByteArray) (dl : Int) (pe rf : ByteArray) (pa : Int) (wd : ByteArray) (c : Int) (h0 : 0 <= c) (h1 : c <= 255) (m : Nat) (w : World) (hm : 16 <= m) (hm2 : m <= 1048575) (hok' : StOk m el at_ pe rf wd) : Calls Tryz.prog 100 #[.agg #[.int .i64 9, .string el, .string at_, .int .u8 dl, .string pe, .string rf, .int .i64 pa, .string wd], .int .u8 c] w (PSt (m + 1) w) := by
 have hok := hok'.mono (Nat.le_succ m)
 have HB := hid (fun W => refBlank_any c h0 h1 W)
 obtain ⟨b1, hb1⟩ := xE (isBlank (bOf c))
 rw [hb1] at HB
 clear hb1
 have HW := hid (fun k el at_ dl pe rf pa wd c h0 h1 hok W => within_any k el at_ dl pe rf pa wd c h0 h1 (m + 1) W (by omega) hok)
 have HC := hid (fun k c h0 h1 W => char_any k el at_ dl pe rf pa wd c h0 h1 m W hm hm2 hok')
 have HF := hid (fun W => flush_any 9 el at_ dl pe rf pa wd (m + 1) W (by omega) (by omega) hok)
 have hez : el.size <= 1048576 := Nat.le_trans hok.1 (by omega)
 have haz : at_.size <= 1048576 := Nat.le_trans hok.2.1 (by omega)
 obtain ⟨q, hq⟩ := xE (c == dl)
 obtain ⟨W, hW⟩ := xE ((w.alloc (.cells #[.int .i64 9, .string el, .string at_, .int .u8 dl, .string pe, .string rf, .int .i64 pa, .string wd] 32)).alloc (.cells #[.int .i64 0, .string ⟨#[]⟩, .string ⟨#[]⟩, .int .u8 0, .string ⟨#[]⟩, .string ⟨#[]⟩, .int .i64 0, .string ⟨#[]⟩] 32))
 have HS : Hid (Blk W w.heap.size 32 #[.int .i64 9, .string el, .string at_, .int .u8 dl, .string pe, .string rf, .int .i64 pa, .string wd]) := hid (by rw [<- hW]; exact (Blk.new w _ _).alloc _)
 have HR : Hid (Blk W (w.heap.size + 1) 32 #[.int .i64 0, .string ⟨#[]⟩, .string ⟨#[]⟩, .int .u8 0, .string ⟨#[]⟩, .string ⟨#[]⟩, .int .i64 0, .string ⟨#[]⟩]) := hid (by rw [<- hW]; exact Blk.new_at _ _ (by simp) _ _)
 have HbW : Hid (Below w.heap.size w W) := hid (by rw [<- hW]; go_grown)
 obtain ⟨pt, hpt⟩ := xE w.heap.size
 have hlt2 := HR.out.lt
 have hlt1 := HS.out.lt
 rw [hpt] at HS HR hlt1 hlt2
 have hsz : Hid (W.heap.size = pt + 2) := hid (by rw [<- hW, <- hpt]; simp)
 obtain ⟨⟨c0, c1, c2, c3, c4, c5, c6, c7⟩, f0, f1, f2, f3, f4, f5, f6, f7⟩ := st_cells HS.out
 obtain ⟨⟨d0, d1, d2, d3, d4, d5, d6, d7⟩, g0, g1, g2, g3, g4, g5, g6, g7⟩ := st_cells HR.out
 go_enter Tryz.func100, Tryz.ntmps100
 go_upto_region 3 with (go_at_call 37; refine (HB.out _).mono ?_; rintro e w1 ⟨rfl, rfl⟩)
 clear hW HB
 cases q
 ·go_wp2_with (go_at_call 115; refine (HC.out _ _ ?ca ?cb _).mono ?_; (case ca => exact h0); (case cb => exact h1); rintro e w2 ⟨k2, el2, at2, dl2, pe2, rf2, pa2, wd2, er, rfl, ok2, hb2⟩; have HR2 := hid (HR.out.below hb2 hlt2); have Hb2 : Hid (Below w.heap.size w w2) := hid (HbW.out.trans (hb2.mono HbW.out.size)); clear c0 c1 c2 c3 c4 c5 c6 c7 f0 f1 f2 f3 f4 f5 f6 f7; clear d0 d1 d2 d3 d4 d5 d6 d7 g0 g1 g2 g3 g4 g5 g6 g7; obtain ⟨⟨d0, d1, d2, d3, d4, d5, d6, d7⟩, g0, g1, g2, g3, g4, g5, g6, g7⟩ := st_cells HR2.out; have hl22 := HR2.out.lt)
  all_goals (
   (try simp only [Exit.inBlock, Exit.then]);refine rc1 (pt + 1) (st_put HR2.out) ?_;exact ⟨_, _, _, _, _, _, _, _, _, rfl, ok2, Hb2.out.trans (st_put_below (by omega))⟩)
 clear d0 d1 d2 d3 d4 d5 d6 d7 g0 g1 g2 g3 g4 g5 g6 g7
 go_upto_region 41 with (go_at_call 119; refine (HF.out _).mono ?_; rintro e w2 ⟨k2, el2, at2, dl2, pe2, rf2, pa2, wd2, er, rfl, ok3, hb2⟩; clear c0 c1 c2 c3 c4 c5 c6 c7 f0 f1 f2 f3 f4 f5 f6 f7)
 obtain ⟨w6, hw6⟩ := xE (w2.alloc (.cells #[.int .i64 k2, .string el2, .string at2, .int .u8 dl2, .string pe2, .string rf2, .int .i64 pa2, .string wd2] 32))
 have HR6 : Hid (Blk w6 (pt + 1) 32 #[.int .i64 0, .string ⟨#[]⟩, .string ⟨#[]⟩, .int .u8 0, .string ⟨#[]⟩, .string ⟨#[]⟩, .int .i64 0, .string ⟨#[]⟩]) := hid (by rw [<- hw6]; exact (HR.out.below hb2 hlt2).alloc _)
 have HX6 : Hid (Blk w6 w2.heap.size 32 #[.int .i64 k2, .string el2, .string at2, .int .u8 dl2, .string pe2, .string rf2, .int .i64 pa2, .string wd2]) := hid (by rw [<- hw6]; exact Blk.new w2 _ _)
 have hb12 := HbW.out.trans (hb2.mono HbW.out.size)
 have Hb6 : Hid (Below w.heap.size w w6) := hid (by rw [<- hw6]; exact hb12.alloc hb12.size _)
 rw [hw6]
 obtain ⟨⟨e0, e1, e2, e3, e4, e5, e6, e7⟩, _⟩ := st_cells HX6.out
 obtain ⟨⟨d0, d1, d2, d3, d4, d5, d6, d7⟩, g0, g1, g2, g3, g4, g5, g6, g7⟩ := st_cells HR6.out
 clear hw6 hb2 hb12 HR
 go_wp2
 (try simp only [Exit.inBlock, Exit.then])
 refine rc1 (pt + 1) (st_put HR6.out) ?_
 exact ⟨_, _, _, _, _, _, _, _, _, rfl, st_el ok3, Hb6.out.trans (st_put_below (by omega))⟩
theorem tag10_any (el at_ : ByteArray) (dl : Int) (pe rf : ByteArray) (pa : Int) (wd : ByteArray) (c : Int) (h0 : 0 <= c) (h1 : c <= 255) (m : Nat) (w : World) (hm : 16 <= m) (hm2 : m <= 1048575) (hok' : StOk m el at_ pe rf wd) : Calls Tryz.prog 100 #[.agg #[.int .i64 10, .string el, .string at_, .int .u8 dl, .string pe, .string rf, .int .i64 pa, .string wd], .int .u8 c] w (PSt (m + 1) w) := by
 have hok := hok'.mono (Nat.le_succ m)
 have HB := hid (fun W => refBlank_any c h0 h1 W)
 obtain ⟨b1, hb1⟩ := xE (isBlank (bOf c))
 rw [hb1] at HB
 clear hb1
 have HW := hid (fun k el at_ dl pe rf pa wd c h0 h1 hok W => within_any k el at_ dl pe rf pa wd c h0 h1 (m + 1) W (by omega) hok)
 have HC := hid (fun k c h0 h1 W => char_any k el at_ dl pe rf pa wd c h0 h1 m W hm hm2 hok')
 have HF := hid (fun W => flush_any 10 el at_ dl pe rf pa wd (m + 1) W (by omega) (by omega) hok)
 have hez : el.size <= 1048576 := Nat.le_trans hok.1 (by omega)
 have haz : at_.size <= 1048576 := Nat.le_trans hok.2.1 (by omega)
 obtain ⟨q, hq⟩ := xE (c == dl)
 obtain ⟨W, hW⟩ := xE ((w.alloc (.cells #[.int .i64 10, .string el, .string at_, .int .u8 dl, .string pe, .string rf, .int .i64 pa, .string wd] 32)).alloc (.cells #[.int .i64 0, .string ⟨#[]⟩, .string ⟨#[]⟩, .int .u8 0, .string ⟨#[]⟩, .string ⟨#[]⟩, .int .i64 0, .string ⟨#[]⟩] 32))
 have HS : Hid (Blk W w.heap.size 32 #[.int .i64 10, .string el, .string at_, .int .u8 dl, .string pe, .string rf, .int .i64 pa, .string wd]) := hid (by rw [<- hW]; exact (Blk.new w _ _).alloc _)
 have HR : Hid (Blk W (w.heap.size + 1) 32 #[.int .i64 0, .string ⟨#[]⟩, .string ⟨#[]⟩, .int .u8 0, .string ⟨#[]⟩, .string ⟨#[]⟩, .int .i64 0, .string ⟨#[]⟩]) := hid (by rw [<- hW]; exact Blk.new_at _ _ (by simp) _ _)
 have HbW : Hid (Below w.heap.size w W) := hid (by rw [<- hW]; go_grown)
 obtain ⟨pt, hpt⟩ := xE w.heap.size
 have hlt2 := HR.out.lt
 have hlt1 := HS.out.lt
 rw [hpt] at HS HR hlt1 hlt2
 have hsz : Hid (W.heap.size = pt + 2) := hid (by rw [<- hW, <- hpt]; simp)
 obtain ⟨⟨c0, c1, c2, c3, c4, c5, c6, c7⟩, f0, f1, f2, f3, f4, f5, f6, f7⟩ := st_cells HS.out
 obtain ⟨⟨d0, d1, d2, d3, d4, d5, d6, d7⟩, g0, g1, g2, g3, g4, g5, g6, g7⟩ := st_cells HR.out
 go_enter Tryz.func100, Tryz.ntmps100
 go_upto_region 3 with (go_at_call 37; refine (HB.out _).mono ?_; rintro e w1 ⟨rfl, rfl⟩)
 clear hW HB
 clear d0 d1 d2 d3 d4 d5 d6 d7 g0 g1 g2 g3 g4 g5 g6 g7
 go_upto_region 44 with (first
  | (go_at_call 119; refine (HF.out _).mono ?_; rintro e w2 ⟨k2, el2, at2, dl2, pe2, rf2, pa2, wd2, er, rfl, ok3, hb2⟩; clear c0 c1 c2 c3 c4 c5 c6 c7 f0 f1 f2 f3 f4 f5 f6 f7)
  | (go_at_call 115; refine (HC.out _ _ ?ca ?cb _).mono ?_; (case ca => exact h0); (case cb => exact h1); rintro e w2 ⟨k2, el2, at2, dl2, pe2, rf2, pa2, wd2, er, rfl, ok2, hb2⟩; have HR2 := hid (HR.out.below hb2 hlt2); have Hb2 : Hid (Below w.heap.size w w2) := hid (HbW.out.trans (hb2.mono HbW.out.size)); clear c0 c1 c2 c3 c4 c5 c6 c7 f0 f1 f2 f3 f4 f5 f6 f7; obtain ⟨⟨d0, d1, d2, d3, d4, d5, d6, d7⟩, g0, g1, g2, g3, g4, g5, g6, g7⟩ := st_cells HR2.out))
 all_goals first
  | (
   (try simp only [Exit.inBlock, Exit.then]);refine rc1 (pt + 1) (st_put HR2.out) ?_;exact ⟨_, _, _, _, _, _, _, _, _, rfl, ok2, Hb2.out.trans (st_put_below (by omega))⟩
   done)
  | (obtain ⟨w6, hw6⟩ := xE (w2.alloc (.cells #[.int .i64 k2, .string el2, .string at2, .int .u8 dl2, .string pe2, .string rf2, .int .i64 pa2, .string wd2] 32))
     have HR6 : Hid (Blk w6 (pt + 1) 32 #[.int .i64 0, .string ⟨#[]⟩, .string ⟨#[]⟩, .int .u8 0, .string ⟨#[]⟩, .string ⟨#[]⟩, .int .i64 0, .string ⟨#[]⟩]) := hid (by rw [<- hw6]; exact (HR.out.below hb2 hlt2).alloc _);have HX6 : Hid (Blk w6 w2.heap.size 32 #[.int .i64 k2, .string el2, .string at2, .int .u8 dl2, .string pe2, .string rf2, .int .i64 pa2, .string wd2]) := hid (by rw [<- hw6]; exact Blk.new w2 _ _);have hb12 := HbW.out.trans (hb2.mono HbW.out.size);have Hb6 : Hid (Below w.heap.size w w6) := hid (by rw [<- hw6]; exact hb12.alloc hb12.size _);rw [hw6];have hl6 := HR6.out.lt;obtain ⟨⟨e0, e1, e2, e3, e4, e5, e6, e7⟩, _⟩ := st_cells HX6.out;obtain ⟨⟨d0, d1, d2, d3, d4, d5, d6, d7⟩, g0, g1, g2, g3, g4, g5, g6, g7⟩ := st_cells HR6.out;clear hw6 hb2 hb12 HR;go_wp2_with (go_at_call 117; refine (HW.out _ _ _ _ _ _ _ _ _ ?ca ?cb ok3 _).mono ?_; (case ca => first | exact h0 | decide); (case cb => first | exact h1 | decide); rintro e w4 ⟨k4, el4, at4, dl4, pe4, rf4, pa4, wd4, er4, rfl, ok4, hb4⟩; have HR4 := hid (HR6.out.below hb4 hl6); have Hb4 : Hid (Below w.heap.size w w4) := hid (Hb6.out.trans (hb4.mono Hb6.out.size)); clear d0 d1 d2 d3 d4 d5 d6 d7 g0 g1 g2 g3 g4 g5 g6 g7; clear e0 e1 e2 e3 e4 e5 e6 e7; obtain ⟨⟨d0, d1, d2, d3, d4, d5, d6, d7⟩, g0, g1, g2, g3, g4, g5, g6, g7⟩ := st_cells HR4.out)
     all_goals first
      | (
        (try simp only [Exit.inBlock, Exit.then]);refine rc1 (pt + 1) (st_put HR4.out) ?_;exact ⟨_, _, _, _, _, _, _, _, _, rfl, ok4, Hb4.out.trans (st_put_below (by omega))⟩
        done)
      | (
        (try simp only [Exit.inBlock, Exit.then]);refine rc1 (pt + 1) (st_put HR6.out) ?_;exact ⟨_, _, _, _, _, _, _, _, _, rfl, ok3, Hb6.out.trans (st_put_below (by omega))⟩
        done))
theorem tag_any (k : Int) (el at_ : ByteArray) (dl : Int) (pe rf : ByteArray) (pa : Int) (wd : ByteArray) (c : Int) (h0 : 0 <= c) (h1 : c <= 255) (m : Nat) (w : World) (hm : 16 <= m) (hm2 : m <= 1048575) (hok : StOk m el at_ pe rf wd) (hk : 3 <= k) (hk2 : k <= 12) : Calls Tryz.prog 100 #[.agg #[.int .i64 k, .string el, .string at_, .int .u8 dl, .string pe, .string rf, .int .i64 pa, .string wd], .int .u8 c] w (PSt (m + 1) w) := by
 rcases (show k = 3 ∨ k = 4 ∨ k = 5 ∨ k = 6 ∨ k = 7 ∨ k = 8 ∨ k = 9 ∨ k = 10 ∨ k = 11 ∨ k = 12 by omega) with e | e | e | e | e | e | e | e | e | e
 all_goals subst e
 ·exact tag3_any el at_ dl pe rf pa wd c h0 h1 m w hm hm2 hok
 ·exact tag4_any el at_ dl pe rf pa wd c h0 h1 m w hm hm2 hok
 ·exact tag5_any el at_ dl pe rf pa wd c h0 h1 m w hm hm2 hok
 ·exact tag6_any el at_ dl pe rf pa wd c h0 h1 m w hm hm2 hok
 ·exact tag7_any el at_ dl pe rf pa wd c h0 h1 m w hm hm2 hok
 ·exact tag8_any el at_ dl pe rf pa wd c h0 h1 m w hm hm2 hok
 ·exact tag9_any el at_ dl pe rf pa wd c h0 h1 m w hm hm2 hok
 ·exact tag10_any el at_ dl pe rf pa wd c h0 h1 m w hm hm2 hok
 ·exact tag11_any el at_ dl pe rf pa wd c h0 h1 m w hm hm2 hok
 exact tag12_any el at_ dl pe rf pa wd c h0 h1 m w hm hm2 hok
end Go.Proofs.YtkcnmjdomipbjaaGreat
