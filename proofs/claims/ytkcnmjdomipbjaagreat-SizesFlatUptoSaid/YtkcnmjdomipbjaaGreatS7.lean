import Derived.Test.YtkcnmjdomipbjaaGreatRows
import Derived.Lib.AppendStr
import Derived.Lib.UnsafeStr
import Derived.Test.YtkcnmjdomipbjaaGreatS2
import Derived.Test.YtkcnmjdomipbjaaGreatS4
set_option linter.unusedVariables false
set_option maxHeartbeats 100000000
set_option maxRecDepth 100000
namespace Go.Proofs.YtkcnmjdomipbjaaGreat
open Go.RowKit
theorem info_u8 : (Tryz.prog.info? 5).map (fun i => (i.zero, i.size, i.bytes)) = some (some (.int .u8 0), 1, 1) := by kernel_rfl
def OwnB (w : World) (base : Nat) (v : Value) (l : List UInt8) : Prop := w.ownsRow base 5 1 v l.length (Lib.byteCells l)
theorem OwnB.nil (w : World) (base : Nat) : OwnB w base (.slice none 0 0) [] := World.ownsRow_nil w base _ _
theorem OwnB.alloc {w : World} {base : Nat} {v : Value} {l : List UInt8} (h : OwnB w base v l) (o : Obj) : OwnB (w.alloc o) base v l := World.ownsRow.alloc h o
theorem OwnB.drew {w : World} {base : Nat} {v : Value} {l : List UInt8} (h : OwnB w base v l) : OwnB w.drew base v l := h
theorem OwnB.keep {w w' : World} {base : Nat} {v : Value} {l : List UInt8} (h : OwnB w base v l) (hb : Below w.heap.size w w') : OwnB w' base v l := by
 refine World.ownsRow.kept (row := none) h ⟨hb.os, hb.tape, hb.output, hb.size, fun k hk _ => hb.block k hk⟩ ?_
 cases h0 : v.ownBlock <;> simp
theorem OwnB.base {w : World} {base : Nat} {v : Value} {l : List UInt8} (h : OwnB w base v l) : ∀ k, v.ownBlock = some k -> base <= k := fun k hk => (World.ownsRow.lt h k hk).1
theorem byteCells_one (l : List UInt8) : ∀ v ∈ Lib.byteCells l, v.oneCell' = true := by
 intro v hv
 simp only [Lib.byteCells, List.mem_map] at hv
 obtain ⟨b, _, rfl⟩ := hv
 rfl
theorem wpl_push {ops : Array Oper} {rest : List Oper} {o : Oper} {a : Act} {Q : Exit -> Act -> World -> Prop} {w : World} (hgd : o.guard = none) (s x : Operand)
  (ho : o.op = .call { callee := .builtin .append, args := #[s, x], argTypes := #[62, 62] })
  (base : Nat) (v : Value) (l : List UInt8) (hs : a.eval s = v) (hown : OwnB w base v l) (g c : Nat) (news : List UInt8) (n : Nat) (hn : n = news.length) (hx : a.eval x = .slice (some ⟨g, 0, none⟩) n c)
  (hc : BytesIn w g news) (hlen : l.length + news.length <= 1099511627776) (hbase : base <= w.heap.size)
  (h : ∀ v' w', OwnB w' base v' (l ++ news) -> w.grownBy w' v.ownBlock -> wpList Tryz.prog ops Q rest (a.put o.dst v') w') : wpList Tryz.prog ops Q (o :: rest) a w := by
 obtain ⟨i0, hi, hz0, hz1, hz2⟩ := info_parts info_u8
 subst hn
 refine wpList_append_own (P := Tryz.prog) w hgd s x 62 ho base 5 i0 (.int .u8 0) 1 1 Tryz.underlying62 hi hz0 hz1 hz2 rfl (by decide) v l.length (Lib.byteCells l) hs hown ⟨g, 0, none⟩ news.length c (Lib.byteCells news) hx (by rw [Lib.byteCells_length]; omega) ?_ (byteCells_one news) (by unfold maxLen; omega) (by omega) hbase ?_
 ·intro j u hu;have hj : j < news.length := by
   rcases Nat.lt_or_ge j news.length with h | h
   ·exact h
   rw [List.getElem?_eq_none (by rw [Lib.byteCells_length]; exact h)] at hu; cases hu
  rw [Addr.add_lit, Nat.zero_add, hc j hj];simp [Lib.byteCells, hj] at hu;rw [<- hu]
 intro v' w' h1 h2 _
 exact h v' w' (by unfold OwnB; rw [List.length_append, Lib.byteCells_append]; exact h1) h2
theorem wpl_pushs {ops : Array Oper} {rest : List Oper} {o : Oper} {a : Act} {Q : Exit -> Act -> World -> Prop} {w : World} (hgd : o.guard = none) (s x : Operand)
  (ho : o.op = .call { callee := .builtin .append, args := #[s, x], argTypes := #[62, 9] })
  (base : Nat) (v : Value) (l : List UInt8) (hs : a.eval s = v) (hown : OwnB w base v l) (t : ByteArray) (hx : a.eval x = .string t)
  (hlen : l.length + t.size <= 1099511627776) (hbase : base <= w.heap.size)
  (h : ∀ v' w', OwnB w' base v' (l ++ t.data.toList) -> w.grownBy w' v.ownBlock -> wpList Tryz.prog ops Q rest (a.put o.dst v') w') : wpList Tryz.prog ops Q (o :: rest) a w := by
 obtain ⟨i0, hi, hz0, hz1, hz2⟩ := info_parts info_u8
 refine Lib.wpList_append_own_string (P := Tryz.prog) w hgd s x 62 9 ho base 5 i0 Tryz.underlying62 Tryz.underlying9 hi hz0 hz1 hz2 v l.length (Lib.byteCells l) hs hown t hx (by unfold maxLen; omega) (by omega) hbase ?_
 intro v' w' h1 h2 _
 exact h v' w' (by unfold OwnB; rw [List.length_append, Lib.byteCells_append, len_data]; exact h1) h2
theorem OwnB.shape {w : World} {base : Nat} {v : Value} {l : List UInt8} (h : OwnB w base v l) : ∃ ad cap, v = .slice ad l.length cap := by
 rcases h.2 with ⟨rfl, h0⟩ | ⟨g, cap, cur, rfl, _⟩
 ·exact ⟨none, 0, by rw [h0]⟩
 exact ⟨_, _, rfl⟩
theorem OwnB.back {w : World} {base : Nat} {v : Value} {l : List UInt8} (h : OwnB w base v l) : (convert 62 9 v).run Tryz.prog w = .ok (.string ⟨l.toArray⟩) w := by
 rcases h.2 with ⟨rfl, h0⟩ | ⟨g, cap, cur, rfl, hb, hg, hnc, hcm, hcs, htk⟩
 ·obtain rfl : l = [] := List.eq_nil_of_length_eq_zero h0;exact run_convert_bytes_nil w _ _ Tryz.underlying62 Tryz.underlying5 0 0 _ Tryz.underlying9
 refine BytesIn.back (l := l) (fun j hj => ?_) cap _ _ _ Tryz.underlying62 Tryz.underlying5 Tryz.underlying9 _ rfl
 have := World.ownsRow.cells h (g := g) rfl j (.int .u8 (l[j].toNat : Int)) (by simp [Lib.byteCells, hj])
 rw [Addr.add_lit, Nat.zero_add] at this
 exact this
theorem OwnB.below {B : Nat} {w0 w w' : World} {v : Value} {l : List UInt8} (hb : Below B w0 w) (hB : B <= w.heap.size) (h : OwnB w B v l) (hg : w.grownBy w' v.ownBlock) : Below B w0 w' :=
 hb.grown hg hB (fun k hk => h.base k hk)
theorem one_new (w : World) (n : Int) (t : TypeId) (h0 : 0 <= n) (h1 : n <= 255) : BytesIn (w.alloc (.cells #[.int .u8 n] t)) w.heap.size [bOf n] := fun j hj => by
 have : j = 0 := by simpa using hj
 subst this
 rw [World.cell?_alloc_mark]
 simp [bOf_toNat n h0 h1]
theorem wpl_push1 {ops : Array Oper} {rest : List Oper} {o : Oper} {a : Act} {Q : Exit -> Act -> World -> Prop} (hgd : o.guard = none) (s x : Operand)
  (ho : o.op = .call { callee := .builtin .append, args := #[s, x], argTypes := #[62, 62] })
  (base : Nat) (v : Value) (l : List UInt8) (n : Int) (W : World) (hown : OwnB W base v l) (hs : a.eval s = v) (hx : a.eval x = .slice (some ⟨W.heap.size, 0, none⟩) 1 1)
  (h0 : 0 <= n) (h1 : n <= 255) (hlen : l.length + 1 <= 1099511627776) (hbase : base <= W.heap.size)
  (h : ∀ v' w', OwnB w' base v' (l ++ [bOf n]) -> Below base W w' -> wpList Tryz.prog ops Q rest (a.put o.dst v') w') : wpList Tryz.prog ops Q (o :: rest) a (W.alloc (.cells #[.int .u8 n] 5)) := by
 refine wpl_push hgd s x ho base v l hs (hown.alloc _) W.heap.size 1 [bOf n] 1 rfl hx (one_new W n _ h0 h1) hlen (by simp; omega) ?_
 intro v' w' h2 h3
 exact h v' w' h2 (OwnB.below ((Below.refl base W).alloc hbase _) (by simp; omega) (hown.alloc _) h3)
theorem wpl_pushs1 {ops : Array Oper} {rest : List Oper} {o : Oper} {a : Act} {Q : Exit -> Act -> World -> Prop} (hgd : o.guard = none) (s x : Operand)
  (ho : o.op = .call { callee := .builtin .append, args := #[s, x], argTypes := #[62, 9] })
  (base : Nat) (v : Value) (l : List UInt8) (W : World) (hown : OwnB W base v l) (hs : a.eval s = v) (t : ByteArray) (hx : a.eval x = .string t)
  (hlen : l.length + t.size <= 1099511627776) (hbase : base <= W.heap.size)
  (h : ∀ v' w', OwnB w' base v' (l ++ t.data.toList) -> Below base W w' -> wpList Tryz.prog ops Q rest (a.put o.dst v') w') : wpList Tryz.prog ops Q (o :: rest) a W := by
 refine wpl_pushs hgd s x ho base v l hs hown t hx hlen hbase ?_
 intro v' w' h2 h3
 exact h v' w' h2 (OwnB.below (Below.refl base W) hbase hown h3)
theorem OwnB.of {w : World} {base : Nat} {v : Value} {n : Nat} {l : List UInt8} (h : w.ownsRow base 5 1 v n (Lib.byteCells l)) (hn : n = l.length) : OwnB w base v l := by subst hn; exact h
end Go.Proofs.YtkcnmjdomipbjaaGreat
