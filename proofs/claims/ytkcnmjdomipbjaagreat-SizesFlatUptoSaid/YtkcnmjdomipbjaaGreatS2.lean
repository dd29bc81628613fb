import Derived.WalkKit
import Derived.WalkSpells
import Derived.WalkLawsBesides
import Derived.Handy
import Derived.Test.YtkcnmjdomipbjaaGreatS1
set_option linter.unusedVariables false
set_option maxHeartbeats 100000000
set_option maxRecDepth 100000
namespace Go.Proofs.YtkcnmjdomipbjaaGreat
open Go.RowKit
def RStr (w : World) (l : List UInt8) (e : Ending) (w' : World) : Prop := ∃ t : ByteArray, e = .returned (.string t) /\ Hid (t.data.toList = l) /\ Below w.heap.size w w'
def RBool (w : World) (b : Bool) (e : Ending) (w' : World) : Prop := ∃ r : Bool, e = .returned (.bool r) /\ Hid (r = b) /\ Below w.heap.size w w'
def RIntStr (w : World) (n : Int) (l : List UInt8) (e : Ending) (w' : World) : Prop := ∃ (r : Int) (t : ByteArray), e = .returned (.tuple #[.int .i64 r, .string t]) /\ Hid (r = n) /\ Hid (t.data.toList = l) /\ Below w.heap.size w w'
def RStrBool (w : World) (l : List UInt8) (b : Bool) (e : Ending) (w' : World) : Prop := ∃ (t : ByteArray) (r : Bool), e = .returned (.tuple #[.string t, .bool r]) /\ Hid (t.data.toList = l) /\ Hid (r = b) /\ Below w.heap.size w w'
def RStrInt (w : World) (l : List UInt8) (n : Int) (e : Ending) (w' : World) : Prop := ∃ (t : ByteArray) (r : Int), e = .returned (.tuple #[.string t, .int .i64 r]) /\ Hid (t.data.toList = l) /\ Hid (r = n) /\ Below w.heap.size w w'
def RIntInt (w : World) (m n : Int) (e : Ending) (w' : World) : Prop := ∃ r q : Int, e = .returned (.tuple #[.int .i64 r, .int .i64 q]) /\ Hid (r = m) /\ Hid (q = n) /\ Below w.heap.size w w'
theorem ret_int {k : IntKind} {a b : Int} (h : a = b) : Ending.returned (.int k a) = .returned (.int k b) := by rw [h]
theorem ret_bool {a b : Bool} (h : a = b) : Ending.returned (.bool a) = .returned (.bool b) := by rw [h]
theorem hid {p : Prop} (h : p) : Hid p := h
theorem len_data (s : ByteArray) : s.data.toList.length = s.size := by rw [Array.length_toList]; rfl
def BytesIn (w : World) (B : Nat) (l : List UInt8) : Prop := ∀ j (h : j < l.length), w.cell? ⟨B, j, none⟩ = some (.int .u8 (l[j].toNat : Int))
def FreeTo (w : World) (B n : Nat) : Prop := ∀ j, j < n -> w.frozen? ⟨B, j, none⟩ = false
theorem BytesIn.drew {w : World} {B : Nat} {l : List UInt8} (h : BytesIn w B l) : BytesIn w.drew B l := h
theorem FreeTo.drew {w : World} {B n : Nat} (h : FreeTo w B n) : FreeTo w.drew B n := h
theorem BytesIn.new (w : World) (s : ByteArray) (cap : Nat) (t : TypeId) (fr : Nat × Nat) : BytesIn (w.alloc (.cells (bytesRow s cap) t fr)) w.heap.size s.data.toList := fun j h => by
 have hj : j < s.data.size := by simpa using h
 rw [World.cell?_alloc_mark, bytesRow_at s cap j hj]
 simp
theorem FreeTo.new (w : World) (s : ByteArray) (cap : Nat) (t : TypeId) (m : Nat) (n : Nat) (hn : n <= s.size) (hm : m = (bytesRow s cap).size) : FreeTo (w.alloc (.cells (bytesRow s cap) t (m, m + 1))) w.heap.size n := fun j h => by
 rw [World.frozen?_alloc_mark]
 have hs : s.size <= (bytesRow s cap).size := by unfold bytesRow; rw [Array.size_append, Array.size_map]; exact Nat.le_add_right _ _
 subst hm
 have e : decide ((bytesRow s cap).size <= j) = false := by simp; omega
 rw [e]; rfl
theorem BytesIn.keep {w w' : World} {B C : Nat} {l : List UInt8} (h : BytesIn w B l) (hb : Below C w w') (hB : B < C) : BytesIn w' B l := fun j hj => by
 rw [hb.cell (p := ⟨B, j, none⟩) hB]; exact h j hj
theorem FreeTo.keep {w w' : World} {B C n : Nat} (h : FreeTo w B n) (hb : Below C w w') (hB : B < C) : FreeTo w' B n := fun j hj => by
 rw [hb.frozen (p := ⟨B, j, none⟩) hB]; exact h j hj
theorem BytesIn.set {w : World} {B k : Nat} {l : List UInt8} (h : BytesIn w B l) (hk : k < l.length) (c : UInt8) : BytesIn (w.setCell ⟨B, k, none⟩ (.int .u8 (c.toNat : Int))) B (l.set k c) := fun j hj => by
 have hj' : j < l.length := by simpa using hj
 by_cases e : k = j
 ·subst e;rw [World.cell?_setCell_same _ _ _ (h k hk)];simp
 rw [World.cell?_setCell_other _ _ _ _ (by intro h; injection h; omega), h j hj']
 simp [e]
theorem FreeTo.set {w : World} {B n : Nat} (h : FreeTo w B n) (a : Addr) (v : Value) : FreeTo (w.setCell a v) B n := fun j hj => by
 rw [World.frozen?_setCell]; exact h j hj
theorem BytesIn.back {P : Program} {w : World} {B : Nat} {l : List UInt8} (h : BytesIn w B l) (cap : Nat) (src dst e : TypeId) (hs : P.underlying src = some (.slice e)) (he : P.underlying e = some (.int .u8)) (hd : P.underlying dst = some .string) (n : Nat) (hn : n = l.length) :
  (convert src dst (.slice (some ⟨B, 0, none⟩) n cap)).run P w = .ok (.string ⟨l.toArray⟩) w := by
 subst hn
 refine run_convert_bytes_back w src dst e ⟨B, 0, none⟩ cap l hs he hd (fun j hj => ?_)
 have : (⟨B, 0, none⟩ : Addr).add j = ⟨B, j, none⟩ := by rw [Addr.add_lit]; simp
 rw [this]; exact h j hj
theorem after {B : Nat} {w w0 w1 : World} (h0 : Below B w w0) (h1 : Below w0.heap.size w0 w1) (hB : B <= w0.heap.size) : Below B w w1 := h0.trans (h1.mono hB)
theorem then_ {w w0 w1 : World} (h0 : Below w.heap.size w w0) (h1 : Below w0.heap.size w0 w1) : Below w.heap.size w w1 := h0.trans (h1.mono h0.size)
theorem data_append (a b : ByteArray) : (a ++ b).data.toList = a.data.toList ++ b.data.toList := by simp
theorem data_extract (s : ByteArray) (a b : Nat) : (s.extract a b).data.toList = (s.data.toList.take b).drop a := by
 rw [ByteArray.data_extract, Array.toList_extract, List.extract_eq_take_drop, List.drop_take]
theorem conv_one {P : Program} (n : Int) (W : World) (src dst e : TypeId) (hs : P.underlying src = some (.slice e)) (he : P.underlying e = some (.int .u8)) (hd : P.underlying dst = some .string) (h0 : 0 <= n) (h1 : n <= 255) :
  (convert src dst (.slice (some ⟨W.heap.size, 0, none⟩) 1 1)).run P (W.alloc (.cells #[.int .u8 n] e)) = .ok (.string ⟨#[bOf n]⟩) (W.alloc (.cells #[.int .u8 n] e)) := by
 have h : BytesIn (W.alloc (.cells #[.int .u8 n] e)) W.heap.size [bOf n] := fun j hj => by
  have : j = 0 := by simpa using hj
  subst this;rw [World.cell?_alloc_mark];simp [bOf_toNat n h0 h1]
 exact h.back 1 src dst e hs he hd 1 rfl
theorem u8_is {c : UInt8} {n : Int} (h : ((c.toNat : Int) == n) = true) : c = bOf n := by rw [<- bOf_cast c, beq_iff_eq.1 h]
theorem u8_not {c : UInt8} {n : Int} (h : ((c.toNat : Int) == n) = false) (h0 : 0 <= n) (h1 : n <= 255) : c ≠ bOf n := by
 intro e
 have h2 := beq_eq_false_iff_ne.1 h
 rw [e, bOf_toNat n h0 h1] at h2
 exact h2 rfl
theorem data_get (s : ByteArray) (k : Nat) (h : k < s.size) (h' : k < s.data.toList.length) : s.data.toList[k] = s[k] := rfl
theorem take_one (l : List UInt8) (k : Nat) (h : k < l.length) : l.take (k + 1) = l.take k ++ [l[k]] := List.take_succ_eq_append_getElem h
theorem take_all (s : ByteArray) : s.data.toList.take s.size = s.data.toList := List.take_of_length_le (by rw [len_data]; exact Nat.le_refl _)
end Go.Proofs.YtkcnmjdomipbjaaGreat
