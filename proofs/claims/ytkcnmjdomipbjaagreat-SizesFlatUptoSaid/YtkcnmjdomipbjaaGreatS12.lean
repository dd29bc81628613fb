import Derived.Maps.AppendAt
import Derived.Deep.QuietTactic
import Derived.BigQuiet
import Derived.Test.YtkcnmjdomipbjaaGreatS10
import Derived.Test.YtkcnmjdomipbjaaGreatS11
set_option linter.unusedVariables false
set_option maxHeartbeats 100000000
set_option maxRecDepth 100000
namespace Go.Proofs.YtkcnmjdomipbjaaGreat
open Go.RowKit
theorem drop_extract (u : ByteArray) (n : Nat) (h : n <= u.size) : (u.extract n u.size).data.toList = u.data.toList.drop n := by
 rw [data_extract, List.take_of_length_le (by rw [len_data]; exact Nat.le_refl _)]
abbrev encI (x : Int) : Value := .int .i64 x
theorem info_int : (Tryz.prog.info? 3).map (fun i => (i.zero, i.size, i.bytes)) = some (some (.int .i64 0), 1, 8) := by kernel_rfl
def OwnI (w : World) (base : Nat) (v : Value) (l : List Int) : Prop := w.ownsRow base 3 1 v l.length (l.map encI)
theorem OwnI.keep {w w' : World} {base : Nat} {v : Value} {l : List Int} (h : OwnI w base v l) (hb : Below w.heap.size w w') : OwnI w' base v l := by
 refine World.ownsRow.kept (row := none) h ⟨hb.os, hb.tape, hb.output, hb.size, fun k hk _ => hb.block k hk⟩ ?_
 cases h0 : v.ownBlock <;> simp
theorem OwnI.base {w : World} {base : Nat} {v : Value} {l : List Int} (h : OwnI w base v l) : ∀ k, v.ownBlock = some k -> base <= k := fun k hk => (World.ownsRow.lt h k hk).1
theorem OwnI.shape {w : World} {base : Nat} {v : Value} {l : List Int} (h : OwnI w base v l) : ∃ ad cap, v = .slice ad l.length cap := by
 rcases h.2 with ⟨rfl, h0⟩ | ⟨g, cap, cur, rfl, _⟩
 ·exact ⟨none, 0, by rw [h0]⟩
 exact ⟨_, _, rfl⟩
theorem OwnI.mono {w : World} {base base' : Nat} {v : Value} {l : List Int} (h : OwnI w base v l) (hb : base' <= base) : OwnI w base' v l := by
 refine ⟨h.1, ?_⟩
 rcases h.2 with hn | ⟨g, cap, cur, hv, hbg, rest⟩
 ·exact .inl hn
 exact .inr ⟨g, cap, cur, hv, Nat.le_trans hb hbg, rest⟩
theorem OwnI.below {B : Nat} {w0 w w' : World} {v : Value} {l : List Int} (hb : Below B w0 w) (hB : B <= w.heap.size) (h : OwnI w B v l) (hg : w.grownBy w' v.ownBlock) : Below B w0 w' :=
 hb.grown hg hB (fun k hk => h.base k hk)
theorem OwnI.cells {w : World} {base : Nat} {v : Value} {l : List Int} (h : OwnI w base v l) : v = .slice none 0 0 /\ l = [] ∨ ∃ g cap, v = .slice (some ⟨g, 0, none⟩) l.length cap /\ base <= g /\ g < w.heap.size /\ ∀ j (hj : j < l.length), w.cell? ⟨g, j, none⟩ = some (.int .i64 l[j]) := by
 rcases h.2 with ⟨rfl, h0⟩ | ⟨g, cap, cur, rfl, hb, hg, hr⟩
 ·exact .inl ⟨rfl, List.eq_nil_of_length_eq_zero h0⟩
 refine .inr ⟨g, cap, rfl, hb, (World.ownsRow.lt h g rfl).2, fun j hj => ?_⟩
 have := World.ownsRow.cells h (g := g) rfl j (.int .i64 l[j]) (by simp [hj])
 rw [Addr.add_lit, Nat.zero_add] at this
 exact this
def RInts (w : World) (l : List Int) (e : Ending) (w' : World) : Prop := ∃ v, e = .returned v /\ OwnI w' w.heap.size v l /\ Below w.heap.size w w'
theorem wpl_pushI {ops : Array Oper} {rest : List Oper} {o : Oper} {a : Act} {Q : Exit -> Act -> World -> Prop} (hgd : o.guard = none) (s x : Operand)
  (ho : o.op = .call { callee := .builtin .append, args := #[s, x], argTypes := #[37, 37] })
  (base : Nat) (v : Value) (l : List Int) (n : Int) (W : World) (hown : OwnI W base v l) (hs : a.eval s = v) (hx : a.eval x = .slice (some ⟨W.heap.size, 0, none⟩) 1 1)
  (hlen : l.length + 1 <= 1099511627776) (hbase : base <= W.heap.size)
  (h : ∀ v' w', OwnI w' base v' (l ++ [n]) -> Below base W w' -> wpList Tryz.prog ops Q rest (a.put o.dst v') w') : wpList Tryz.prog ops Q (o :: rest) a (W.alloc (.cells #[.int .i64 n] 3)) := by
 obtain ⟨i0, hi, hz0, hz1, hz2⟩ := info_parts info_int
 refine wpList_append_own (P := Tryz.prog) _ hgd s x 37 ho base 3 i0 (.int .i64 0) 1 8 Tryz.underlying37 hi hz0 hz1 hz2 rfl (by decide) v l.length (l.map encI) hs (World.ownsRow.alloc hown _) ⟨W.heap.size, 0, none⟩ 1 1 [encI n] hx rfl (Go.cell_one_new _ _ _) (by simp [Value.oneCell']) (by unfold maxLen; omega) (by omega) (by simp; omega) ?_
 intro v' w' h1 h2 _
 refine h v' w' (by unfold OwnI; rw [List.length_append, List.map_append]; exact h1) ?_
 exact OwnI.below ((Below.refl base W).alloc hbase _) (by simp; omega) (World.ownsRow.alloc hown _) h2
theorem refChars_any (s : ByteArray) (w : World) (hs : s.size <= 137438953472) : Calls Tryz.prog 123 #[.string s] w (RInts w (charsL s.data.toList)) := by
 have hlen := len_data s
 have Hlen := hid hlen
 clear hlen
 go_enter Tryz.func123, Tryz.ntmps123
 go_wp2
 go_loopw [3, 4] (fun b i wr => ∃ (k : Nat) (pre : List Int), k <= s.size /\ i = .int .i64 k /\ pre.length <= k /\ Hid (OwnI wr w.heap.size b pre) /\ Hid (charsL s.data.toList = pre ++ charsL (s.data.toList.drop k)) /\ Below w.heap.size w wr) (fun _ i _ => s.size - (intOf i).toNat)
 case atStart => exact ⟨0, [], Nat.zero_le _, rfl, Nat.le_refl _, hid (World.ownsRow_nil _ _ _ _), hid rfl, Below.refl _ _⟩
 obtain ⟨k, pre, hk, rfl, hpk, hO, hch, hb⟩ := hrel
 obtain ⟨ad, cap, rfl⟩ := hO.out.shape
 by_cases hlt : k < s.size
 ·have hde : Hid ((s.extract k s.size).data.toList = s.data.toList.drop k) := hid (drop_extract s k (by omega));have hne : s.data.toList.drop k ≠ [] := by
   intro e;have := congrArg List.length e;rw [List.length_drop, Hlen.out] at this;simp at this; omega
  have hdn := decN_pos _ hne;rw [List.length_drop, Hlen.out] at hdn;have hok := chrL_ok (s.data.toList.drop k);have Hok := hid hok;have Hst := hid (charsL_step _ hne);have Hne := hid hne;clear hok hne;go_wp2_with (go_at_call 138; refine (refDecode_any _ _ (by rw [ByteArray.size_extract]; omega)).mono ?_)
  rintro e w1 ⟨c, n', rfl, hc, hn, hb1⟩;obtain ⟨n, rfl⟩ : ∃ n : Nat, n' = (n : Int) := ⟨_, hn.out⟩
  have hn2 : decN (s.data.toList.drop k) = n := by have := hn.out; rw [hde.out] at this; omega
  have Hn := hid hn2;have hkn : 1 <= n /\ k + n <= s.size := by omega
  have hO1 := hO.out.keep hb1;have hb2 : Below w.heap.size w w1 := after hb hb1 hb.size;have hcw := hc.out;rw [hde.out] at hcw;have Hc := hid hcw;clear hdn hn2 hcw hc hn;by_cases hc0 : c <= 0
  ·have Hx : Hid (chrL (s.data.toList.drop k) = 65533) := hid (by unfold chrL; rw [<- Hc.out, if_pos hc0]);go_wp2_with (at_builtin; refine wpl_pushI rfl _ _ rfl w.heap.size _ pre _ _ hO1 rfl rfl (by omega) hb2.size ?_)
   intro v' w2 hO2 hb3;go_wp2
   go_roundw
   case rel =>
    refine ⟨k + n, _, by omega, by go_num, by simp; omega, hid hO2, hid ?_, hb2.trans hb3⟩;rw [hch.out, Hst.out, List.append_assoc, Hx.out, Hn.out, List.drop_drop]; rfl
   simp [intOf]; omega
  have Hx : Hid (chrL (s.data.toList.drop k) = c) := hid (by unfold chrL; rw [<- Hc.out, if_neg hc0]);go_wp2_with (at_builtin; refine wpl_pushI rfl _ _ rfl w.heap.size _ pre _ _ hO1 rfl rfl (by omega) hb2.size ?_)
  intro v' w2 hO2 hb3;go_wp2
  go_roundw
  case rel =>
   refine ⟨k + n, _, by omega, by go_num, by simp; omega, hid hO2, hid ?_, hb2.trans hb3⟩;rw [hch.out, Hst.out, List.append_assoc, Hx.out, Hn.out, List.drop_drop]; rfl
  simp [intOf]; omega
 obtain rfl : k = s.size := by omega
 go_wp2
 go_ret
 refine ⟨_, rfl, ?_, hb⟩
 have := hch.out
 rw [List.drop_of_length_le (by rw [Hlen.out]; exact Nat.le_refl _), charsL_nil, List.append_nil] at this
 rw [this]; exact hO.out
theorem refRepair_any (s : ByteArray) (w : World) (hs : s.size <= 137438953472) : Calls Tryz.prog 105 #[.string s] w (RStr w (repairL s.data.toList)) := by
 have hl1 := charsL_len _ s.data.toList (Nat.le_refl _)
 rw [len_data] at hl1
 have Hok := hid (charsL_ok _ s.data.toList (Nat.le_refl _))
 obtain ⟨cs, hcs⟩ := xE (charsL s.data.toList)
 have Hcs := hid hcs
 rw [hcs] at hl1 Hok
 go_enter Tryz.func105, Tryz.ntmps105
 go_wp2_with (go_at_call 123; refine (refChars_any _ _ hs).mono ?_)
 rintro e w1 ⟨v, rfl, hv, hb1⟩
 rw [hcs] at hv
 have hcell := hv.cells
 have Hcell := hid hcell
 obtain ⟨ad, cap, rfl⟩ := hv.shape
 have Hv := hid hv
 clear hv hcell hcs
 go_wp2
 go_loopw [3, 5] (fun b i wr => ∃ k : Nat, k <= cs.length /\ i = .int .i64 k /\ Hid (OwnB wr w1.heap.size b (encAll (cs.take k))) /\ Below w1.heap.size w1 wr) (fun _ i _ => cs.length - (intOf i).toNat)
 case atStart => exact ⟨0, Nat.zero_le _, rfl, hid (OwnB.nil _ _), Below.refl _ _⟩
 obtain ⟨k, hk, rfl, hO, hb⟩ := hrel
 obtain ⟨ad2, cap2, rfl⟩ := hO.out.shape
 obtain ⟨m, hm⟩ := xE (encAll (cs.take k)).length
 have hm1 : m <= 4 * k := by rw [<- hm]; have := encAll_len (cs.take k); rw [List.length_take] at this; omega
 have Hm := hid hm
 have hcv := OwnB.back hO.out
 rw [hm] at hcv ⊢
 clear hm
 by_cases hlt : k < cs.length
 ·have hx : ∃ g, ad = some ⟨g, 0, none⟩ /\ g < w1.heap.size /\ w1.cell? ⟨g, k, none⟩ = some (.int .i64 cs[k]) := by
   rcases Hcell.out with ⟨_, h0⟩ | ⟨g, cp, he, _, hg, hc⟩
   ·rw [h0] at hlt; simp at hlt
   injection he with he _ _
   exact ⟨g, he, hg, hc k hlt⟩
  obtain ⟨g, rfl, hg, hc⟩ := hx;rw [<- hb.cell (p := ⟨g, k, none⟩) hg] at hc;obtain ⟨x, hx⟩ := xE cs[k];rw [hx] at hc;have hxo := Hok.out x (by rw [<- hx]; exact List.getElem_mem hlt);have hxb := of_decide_eq_true hxo.1;have hx1 : 0 <= x /\ x <= 1114111 := by omega
  have HL : Hid (encL x = Lib.encodeRune x) := hid (by unfold encL; rw [hxo.1]; rfl);have Hx := hid hx;clear hx hxo hxb hcv;go_wp2_with (go_at_call 124; refine (refEncode_any _ (by omega) (by omega) _).mono ?_)
  rintro e w2 ⟨t, r, rfl, ht, hr, hb2⟩;have htl := len_data t;have hte : t.data.toList = Lib.encodeRune x := by rw [ht.out, HL.out]
  have hts : t.size <= 4 := by rw [<- htl, hte]; exact (encodeRune_len x).2
  have hO2 := hO.out.keep hb2;have hb3 := after hb hb2 hb.size;have Hte := hid hte;clear htl hte ht hr;rw [<- Hm.out];go_wp2_with (at_builtin; refine wpl_pushs1 rfl _ _ rfl w1.heap.size _ _ _ hO2 rfl t rfl (by rw [Hm.out]; omega) hb3.size ?_)
  intro v' w3 hO3 hb4;go_wp2
  go_roundw
  case rel =>
   refine ⟨k + 1, by omega, by go_num, hid ?_, hb3.trans hb4⟩;rw [List.take_succ_eq_append_getElem hlt, encAll_snoc, Hx.out, <- Hte.out]; exact hO3
  simp [intOf]; omega
 obtain rfl : k = cs.length := by omega
 go_wp2
 go_ret
 refine ⟨_, rfl, hid ?_, then_ hb1 hb⟩
 unfold repairL; rw [Hcs.out]
theorem escB_cases (c : UInt8) (n : Int) (hn : (c.toNat : Int) = n) : (n = 38 /\ escB c = [38, 97, 109, 112, 59]) ∨ (n = 60 /\ escB c = [38, 108, 116, 59]) ∨ (n = 62 /\ escB c = [38, 103, 116, 59]) ∨ (n = 34 /\ escB c = [38, 35, 51, 52, 59]) ∨ (n = 39 /\ escB c = [38, 35, 51, 57, 59]) ∨ (n = 43 /\ escB c = [38, 35, 52, 51, 59]) ∨ ((n == 38) = false /\ (n == 60) = false /\ (n == 62) = false /\ (n == 34) = false /\ (n == 39) = false /\ (n == 43) = false /\ escB c = [c]) := by
 subst hn
 have key : ∀ d : UInt8, ((c.toNat : Int) == (d.toNat : Int)) = decide (c = d) := fun d => by
  rw [Bool.eq_iff_iff, beq_iff_eq, decide_eq_true_iff];constructor
  ·intro h; exact UInt8.toNat_inj.1 (by omega)
  rintro rfl; rfl
 have k1 := key 38
 have k2 := key 60
 have k3 := key 62
 have k4 := key 34
 have k5 := key 39
 have k6 := key 43
 unfold escB
 by_cases h1 : c = 38
 ·subst h1; left; exact ⟨rfl, rfl⟩
 by_cases h2 : c = 60
 ·subst h2; right; left; exact ⟨rfl, rfl⟩
 by_cases h3 : c = 62
 ·subst h3; right; right; left; exact ⟨rfl, rfl⟩
 by_cases h4 : c = 34
 ·subst h4; right; right; right; left; exact ⟨rfl, rfl⟩
 by_cases h5 : c = 39
 ·subst h5; right; right; right; right; left; exact ⟨rfl, rfl⟩
 by_cases h6 : c = 43
 ·subst h6; right; right; right; right; right; left; exact ⟨rfl, rfl⟩
 right; right; right; right; right; right
 refine ⟨?_, ?_, ?_, ?_, ?_, ?_, by rw [if_neg h1, if_neg h2, if_neg h3, if_neg h4, if_neg h5, if_neg h6]⟩
 ·exact k1.trans (decide_eq_false h1)
 ·exact k2.trans (decide_eq_false h2)
 ·exact k3.trans (decide_eq_false h3)
 ·exact k4.trans (decide_eq_false h4)
 ·exact k5.trans (decide_eq_false h5)
 exact k6.trans (decide_eq_false h6)
theorem escA_take (l : List UInt8) (k : Nat) (h : k < l.length) : escA (l.take (k + 1)) = escA (l.take k) ++ escB l[k] := by
 rw [take_one l k h, escA_snoc]
theorem repairL_len (s : ByteArray) : (repairL s.data.toList).length <= 4 * s.size := by
 have h1 := charsL_len _ s.data.toList (Nat.le_refl _)
 have h2 := encAll_len (charsL s.data.toList)
 rw [len_data] at h1
 unfold repairL; omega
theorem refEscape06_any (s : ByteArray) (w : World) (hs : s.size <= 8589934592) :
  Calls Tryz.prog 89 #[.string s] w (RStr w (escL s.data.toList)) := by
 have hRL := repairL_len s
 go_enter Tryz.func89, Tryz.ntmps89
 go_wp2_with fail
 refine (refRepair_any s _ (by omega)).mono ?_
 rintro e w1 ⟨t, rfl, ht, hb1⟩
 have Hlt := hid (len_data t)
 have hts : t.size <= 4 * s.size := by have := Hlt.out; rw [ht.out] at this; omega
 clear hRL
 go_wp2
 go_loopw [4, 5] (fun b i wr => ∃ k : Nat, k <= t.size /\ i = .int .i64 k /\ Hid (OwnB wr w1.heap.size b (escA (t.data.toList.take k))) /\ Below w1.heap.size w1 wr) (fun _ i _ => t.size - (intOf i).toNat)
 case atStart => exact ⟨0, Nat.zero_le _, rfl, hid (OwnB.nil _ _), Below.refl _ _⟩
 obtain ⟨k, hk, rfl, hO, hb⟩ := hrel
 obtain ⟨ad, cap, rfl⟩ := hO.out.shape
 obtain ⟨m, hm⟩ := xE (escA (t.data.toList.take k)).length
 have hm1 : m <= 5 * t.size := by
  rw [<- hm];have := escA_len (t.data.toList.take k);rw [List.length_take, Hlt.out] at this; omega
 have HLn := hid hm
 have hcv := hO.out.back
 rw [hm] at hcv ⊢
 clear hm
 by_cases hlt : k < t.size
 ·have hkl : k < t.data.toList.length := by rw [Hlt.out]; exact hlt
  obtain ⟨c, hc⟩ := xE t.data.toList[k];have Hst := hid (escA_take t.data.toList k hkl);rw [hc] at Hst;have hsc : t[k]'hlt = c := by rw [<- data_get t k hlt hkl]; exact hc
  obtain ⟨n, hn⟩ : ∃ n : Int, ((t[k]'hlt).toNat : Int) = n := ⟨_, rfl⟩
  have hn0 : 0 <= n /\ n <= 255 := by have := (t[k]'hlt).toNat_lt; omega
  have hcases := escB_cases c n (by rw [<- hsc]; exact hn);have Hbo : Hid (bOf n = c) := hid (by rw [<- hn, bOf_cast, hsc]);clear hc hcv hsc;have hO2 := hO.out;rw [HLn.out] at hO2;rcases hcases with hcase | hcase | hcase | hcase | hcase | hcase | hcase
  ·obtain ⟨rfl, he⟩ := hcase;have He := hid he;clear he;go_wp2_with (at_builtin; refine wpl_pushs1 rfl _ _ rfl w1.heap.size _ _ _ hO2 rfl _ rfl (by rw [HLn.out]; simp [ByteArray.size]; omega) hb.size ?_; intro v' w3 hO3 hb3)
   go_roundw
   case rel => exact ⟨k + 1, by omega, by go_num, hid (by rw [Hst.out, He.out]; exact hO3), hb.trans hb3⟩
   simp [intOf]; omega
  ·obtain ⟨rfl, he⟩ := hcase;have He := hid he;clear he;go_wp2_with (at_builtin; refine wpl_pushs1 rfl _ _ rfl w1.heap.size _ _ _ hO2 rfl _ rfl (by rw [HLn.out]; simp [ByteArray.size]; omega) hb.size ?_; intro v' w3 hO3 hb3)
   go_roundw
   case rel => exact ⟨k + 1, by omega, by go_num, hid (by rw [Hst.out, He.out]; exact hO3), hb.trans hb3⟩
   simp [intOf]; omega
  ·obtain ⟨rfl, he⟩ := hcase;have He := hid he;clear he;go_wp2_with (at_builtin; refine wpl_pushs1 rfl _ _ rfl w1.heap.size _ _ _ hO2 rfl _ rfl (by rw [HLn.out]; simp [ByteArray.size]; omega) hb.size ?_; intro v' w3 hO3 hb3)
   go_roundw
   case rel => exact ⟨k + 1, by omega, by go_num, hid (by rw [Hst.out, He.out]; exact hO3), hb.trans hb3⟩
   simp [intOf]; omega
  ·obtain ⟨rfl, he⟩ := hcase;have He := hid he;clear he;go_wp2_with (at_builtin; refine wpl_pushs1 rfl _ _ rfl w1.heap.size _ _ _ hO2 rfl _ rfl (by rw [HLn.out]; simp [ByteArray.size]; omega) hb.size ?_; intro v' w3 hO3 hb3)
   go_roundw
   case rel => exact ⟨k + 1, by omega, by go_num, hid (by rw [Hst.out, He.out]; exact hO3), hb.trans hb3⟩
   simp [intOf]; omega
  ·obtain ⟨rfl, he⟩ := hcase;have He := hid he;clear he;go_wp2_with (at_builtin; refine wpl_pushs1 rfl _ _ rfl w1.heap.size _ _ _ hO2 rfl _ rfl (by rw [HLn.out]; simp [ByteArray.size]; omega) hb.size ?_; intro v' w3 hO3 hb3)
   go_roundw
   case rel => exact ⟨k + 1, by omega, by go_num, hid (by rw [Hst.out, He.out]; exact hO3), hb.trans hb3⟩
   simp [intOf]; omega
  ·obtain ⟨rfl, he⟩ := hcase;have He := hid he;clear he;go_wp2_with (at_builtin; refine wpl_pushs1 rfl _ _ rfl w1.heap.size _ _ _ hO2 rfl _ rfl (by rw [HLn.out]; simp [ByteArray.size]; omega) hb.size ?_; intro v' w3 hO3 hb3)
   go_roundw
   case rel => exact ⟨k + 1, by omega, by go_num, hid (by rw [Hst.out, He.out]; exact hO3), hb.trans hb3⟩
   simp [intOf]; omega
  obtain ⟨g1, g2, g3, g4, g5, g6, he⟩ := hcase;have He := hid he;clear he;go_wp2_with (at_builtin; refine wpl_push1 rfl _ _ rfl w1.heap.size _ _ _ _ hO2 rfl rfl hn0.1 hn0.2 (by rw [HLn.out]; omega) hb.size ?_; intro v' w3 hO3 hb3)
  go_roundw
  case rel => exact ⟨k + 1, by omega, by go_num, hid (by rw [Hst.out, He.out, <- Hbo.out]; exact hO3), hb.trans hb3⟩
  simp [intOf]; omega
 obtain rfl : k = t.size := by omega
 go_wp2
 go_ret
 refine ⟨_, rfl, hid ?_, then_ hb1 hb⟩
 show escA (t.data.toList.take t.size) = _
 rw [take_all, ht.out]; rfl
end Go.Proofs.YtkcnmjdomipbjaaGreat
