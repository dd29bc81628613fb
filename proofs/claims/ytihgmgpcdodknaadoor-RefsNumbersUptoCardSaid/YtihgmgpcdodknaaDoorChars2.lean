/- utf.Chars, utf.Count; the pages' Chars, Repair, Valid; SameInts. -/
import Derived.Test.YtihgmgpcdodknaaDoorChars
import Derived.Test.YtihgmgpcdodknaaDoorDec
set_option linter.unusedVariables false
namespace Go.Proofs.YtihgmgpcdodknaaDoor
open Go.RowKit Go.Shelf

theorem OwnI.keep {w w' : World} {base : Nat} {v : Value} {l : List Int} (h : OwnI w base v l) (hb : Below w.heap.size w w') : OwnI w' base v l := by
  refine World.ownsRow.kept (row := none) h ⟨hb.os, hb.tape, hb.output, hb.size, fun k hk _ => hb.block k hk⟩ ?_
  cases h0 : v.ownBlock <;> simp
theorem OwnI.base {w : World} {base : Nat} {v : Value} {l : List Int} (h : OwnI w base v l) : ∀ k, v.ownBlock = some k → base ≤ k := fun k hk => (World.ownsRow.lt h k hk).1
theorem OwnI.shape {w : World} {base : Nat} {v : Value} {l : List Int} (h : OwnI w base v l) : ∃ ad cap, v = .slice ad l.length cap := by
  rcases h.2 with ⟨rfl, h0⟩ | ⟨g, cap, cur, rfl, _⟩
  · exact ⟨none, 0, by rw [h0]⟩
  · exact ⟨_, _, rfl⟩
theorem OwnI.mono {w : World} {base base' : Nat} {v : Value} {l : List Int} (h : OwnI w base v l) (hb : base' ≤ base) : OwnI w base' v l := by
  refine ⟨h.1, ?_⟩
  rcases h.2 with hn | ⟨g, cap, cur, hv, hbg, rest⟩
  · exact .inl hn
  · exact .inr ⟨g, cap, cur, hv, Nat.le_trans hb hbg, rest⟩
theorem OwnI.below {B : Nat} {w0 w w' : World} {v : Value} {l : List Int} (hb : Below B w0 w) (hB : B ≤ w.heap.size) (h : OwnI w B v l) (hg : w.grownBy w' v.ownBlock) : Below B w0 w' :=
  hb.grown hg hB (fun k hk => h.base k hk)
/-- the slice's cells -/
theorem OwnI.cells {w : World} {base : Nat} {v : Value} {l : List Int} (h : OwnI w base v l) : v = .slice none 0 0 ∧ l = [] ∨ ∃ g cap, v = .slice (some ⟨g, 0, none⟩) l.length cap ∧ base ≤ g ∧ g < w.heap.size ∧ ∀ j (hj : j < l.length), w.cell? ⟨g, j, none⟩ = some (.int .i64 l[j]) := by
  rcases h.2 with ⟨rfl, h0⟩ | ⟨g, cap, cur, rfl, hb, hg, hr⟩
  · exact .inl ⟨rfl, List.eq_nil_of_length_eq_zero h0⟩
  · refine .inr ⟨g, cap, rfl, hb, (World.ownsRow.lt h g rfl).2, fun j hj => ?_⟩
    have := World.ownsRow.cells h (g := g) rfl j (.int .i64 l[j]) (by simp [hj])
    rw [Addr.add_lit, Nat.zero_add] at this
    exact this
/-- returns a slice of its own that holds the numbers -/
def RInts (w : World) (l : List Int) (e : Ending) (w' : World) : Prop := ∃ v, e = .returned v ∧ OwnI w' w.heap.size v l ∧ Below w.heap.size w w'

/-- append(l, x): one number -/
theorem wpl_pushI {ops : Array Oper} {rest : List Oper} {o : Oper} {a : Act} {Q : Exit → Act → World → Prop} (hgd : o.guard = none) (s x : Operand)
    (ho : o.op = .call { callee := .builtin .append, args := #[s, x], argTypes := #[37, 37] })
    (base : Nat) (v : Value) (l : List Int) (n : Int) (W : World) (hown : OwnI W base v l) (hs : a.eval s = v) (hx : a.eval x = .slice (some ⟨W.heap.size, 0, none⟩) 1 1)
    (hlen : l.length + 1 ≤ 1099511627776) (hbase : base ≤ W.heap.size)
    (h : ∀ v' w', OwnI w' base v' (l ++ [n]) → Below base W w' → wpList Tryd.prog ops Q rest (a.put o.dst v') w') : wpList Tryd.prog ops Q (o :: rest) a (W.alloc (.cells #[.int .i64 n] 3)) := by
  obtain ⟨i0, hi, hz0, hz1, hz2⟩ := info_parts info_int
  refine wpList_append_own (P := Tryd.prog) _ hgd s x 37 ho base 3 i0 (.int .i64 0) 1 8 Tryd.underlying37 hi hz0 hz1 hz2 rfl (by decide) v l.length (l.map encI) hs (World.ownsRow.alloc hown _) ⟨W.heap.size, 0, none⟩ 1 1 [encI n] hx rfl (Go.cell_one_new _ _ _) (by simp [Value.oneCell']) (by unfold maxLen; omega) (by omega) (by simp; omega) ?_
  intro v' w' h1 h2 _
  refine h v' w' (by unfold OwnI; rw [List.length_append, List.map_append]; exact h1) ?_
  exact OwnI.below ((Below.refl base W).alloc hbase _) (by simp; omega) (World.ownsRow.alloc hown _) h2

set_option maxHeartbeats 800000 in
theorem collect_any (s : ByteArray) (w0 w : World) (bS : Nat) (hbx : Boxed w bS 9 (.string s)) (hT : TabsAt w0) (hs : s.size ≤ 137438953472) (h0 : w0.heap.size ≤ bS) (hb0 : Below w0.heap.size w0 w) :
    Calls Tryd.prog 59 #[eachV bS] w fun e w' => ∃ v, e = .returned v ∧ OwnI w' w0.heap.size v (charsL s.data.toList) ∧ Below w0.heap.size w0 w' := by
  go_enter Tryd.func59, Tryd.ntmps59
  go_wp2_with fail
  refine (appendSeq_any s w0 _ bS hbx hT hs h0 hb0).mono ?_
  rintro e w1 ⟨v, rfl, hv, hb⟩
  go_wp2
  go_ret
  exact ⟨v, rfl, hv.mono hb0.size, hb⟩

set_option maxHeartbeats 800000 in
theorem chars_any (s : ByteArray) (w : World) (hs : s.size ≤ 137438953472) (hT : TabsAt w) : Calls Tryd.prog 23 #[.string s] w (RInts w (charsL s.data.toList)) := by
  go_enter Tryd.func23, Tryd.ntmps23
  go_wp2_with (go_at_call 60; refine (each_any s _).mono ?_; rintro e w1 ⟨rfl, rfl⟩)
  refine (collect_any s w _ w.heap.size (Boxed.new w _ _) hT hs (Nat.le_refl _) ((Below.refl _ w).alloc (Nat.le_refl _) _)).mono ?_
  rintro e w1 ⟨v, rfl, hv, hb⟩
  go_wp2
  go_ret
  exact ⟨v, rfl, hv, hb⟩

set_option maxHeartbeats 800000 in
theorem count_any (s : ByteArray) (w : World) (hs : s.size ≤ 137438953472) (hT : TabsAt w) : Calls Tryd.prog 31 #[.string s] w (RInt w ((charsL s.data.toList).length : Int)) := by
 go_enter Tryd.func31, Tryd.ntmps31
 go_wp2_with fail
 refine (chars_any s _ hs hT).mono ?_
 rintro e w1 ⟨v, rfl, hv, hb⟩
 obtain ⟨ad, cap, rfl⟩ := hv.shape
 go_wp2
 go_ret
 exact ⟨_, rfl, hid rfl, hb⟩

set_option maxRecDepth 100000 in
set_option maxHeartbeats 800000 in
theorem refChars_any (s : ByteArray) (w : World) (hs : s.size ≤ 137438953472) : Calls Tryd.prog 25 #[.string s] w (RInts w (charsL s.data.toList)) := by
  have hlen := len_data s
  have Hlen := hid hlen
  clear hlen
  go_enter Tryd.func25, Tryd.ntmps25
  go_wp2
  go_loopw [3, 4] (fun b i wr => ∃ (k : Nat) (pre : List Int), k ≤ s.size ∧ i = .int .i64 k ∧ pre.length ≤ k ∧ Hid (OwnI wr w.heap.size b pre) ∧ Hid (charsL s.data.toList = pre ++ charsL (s.data.toList.drop k)) ∧ Below w.heap.size w wr) (fun _ i _ => s.size - (intOf i).toNat)
  case atStart => exact ⟨0, [], Nat.zero_le _, rfl, Nat.le_refl _, hid (World.ownsRow_nil _ _ _ _), hid rfl, Below.refl _ _⟩
  case round =>
    obtain ⟨k, pre, hk, rfl, hpk, hO, hch, hb⟩ := hrel
    obtain ⟨ad, cap, rfl⟩ := hO.out.shape
    by_cases hlt : k < s.size
    · have hde : Hid ((s.extract k s.size).data.toList = s.data.toList.drop k) := hid (drop_extract s k (by omega))
      have hne : s.data.toList.drop k ≠ [] := by
        intro e
        have := congrArg List.length e
        rw [List.length_drop, Hlen.out] at this
        simp at this; omega
      have hdn := decN_pos _ hne
      rw [List.length_drop, Hlen.out] at hdn
      have hok := chrL_ok (s.data.toList.drop k)
      have Hok := hid hok
      have Hst := hid (charsL_step _ hne)
      have Hne := hid hne
      clear hok hne
      go_wp2_with (go_at_call 27; refine (refDecode_any _ _ (by rw [ByteArray.size_extract]; omega)).mono ?_)
      rintro e w1 ⟨c, n', rfl, hc, hn, hb1⟩
      obtain ⟨n, rfl⟩ : ∃ n : Nat, n' = (n : Int) := ⟨_, hn.out⟩
      have hn2 : decN (s.data.toList.drop k) = n := by have := hn.out; rw [hde.out] at this; omega
      have Hn := hid hn2
      have hkn : 1 ≤ n ∧ k + n ≤ s.size := by omega
      have hO1 := hO.out.keep hb1
      have hb2 : Below w.heap.size w w1 := after hb hb1 hb.size
      have hcw := hc.out
      rw [hde.out] at hcw
      have Hc := hid hcw
      clear hdn hn2 hcw hc hn
      by_cases hc0 : c ≤ 0
      · have Hx : Hid (chrL (s.data.toList.drop k) = 65533) := hid (by unfold chrL; rw [← Hc.out, if_pos hc0])
        go_wp2_with (at_builtin; refine wpl_pushI rfl _ _ rfl w.heap.size _ pre _ _ hO1 rfl rfl (by omega) hb2.size ?_)
        intro v' w2 hO2 hb3
        go_wp2
        go_roundw
        case rel =>
          refine ⟨k + n, _, by omega, by go_num, by simp; omega, hid hO2, hid ?_, hb2.trans hb3⟩
          rw [hch.out, Hst.out, List.append_assoc, Hx.out, Hn.out, List.drop_drop]; rfl
        case measure => simp [intOf]; omega
      · have Hx : Hid (chrL (s.data.toList.drop k) = c) := hid (by unfold chrL; rw [← Hc.out, if_neg hc0])
        go_wp2_with (at_builtin; refine wpl_pushI rfl _ _ rfl w.heap.size _ pre _ _ hO1 rfl rfl (by omega) hb2.size ?_)
        intro v' w2 hO2 hb3
        go_wp2
        go_roundw
        case rel =>
          refine ⟨k + n, _, by omega, by go_num, by simp; omega, hid hO2, hid ?_, hb2.trans hb3⟩
          rw [hch.out, Hst.out, List.append_assoc, Hx.out, Hn.out, List.drop_drop]; rfl
        case measure => simp [intOf]; omega
    · obtain rfl : k = s.size := by omega
      go_wp2
      go_ret
      refine ⟨_, rfl, ?_, hb⟩
      have := hch.out
      rw [List.drop_of_length_le (by rw [Hlen.out]; exact Nat.le_refl _), charsL_nil, List.append_nil] at this
      rw [this]; exact hO.out
end Go.Proofs.YtihgmgpcdodknaaDoor
