import Derived.Test.YtihgmgpcdodknaaMch
import Derived.Test.YtihgmgpcdodknaaTok12
set_option linter.unusedVariables false
/- muslinref12.Reader in memory: its block of fourteen cells, its three rows. -/
namespace Go.Proofs.Ytihgmgpcdodknaa
open Go.RowKit

/-- the value owns, from block 'base' on, just these tokens, whose attributes lie below B -/
def OwnL (w : World) (base B : Nat) (V : Value) (L : List Tk) : Prop := ∃ cs, TkCells w base cs L ∧ (∀ v ∈ cs, ∀ g, v.ownBlock = some g → g < B) ∧ w.ownsRow base 36 5 V L.length cs
theorem OwnL.nil (w : World) (base B : Nat) : OwnL w base B (.slice none 0 0) [] := ⟨[], rfl, by simp, World.ownsRow_nil w base _ _⟩
theorem OwnL.ownT {w : World} {base B : Nat} {V : Value} {L : List Tk} (h : OwnL w base B V L) : OwnT w base V L := by
  obtain ⟨cs, h1, _, h3⟩ := h
  exact ⟨cs, h1, h3⟩
theorem OwnL.shape {w : World} {base B : Nat} {V : Value} {L : List Tk} (h : OwnL w base B V L) {n : Nat} (hn : L.length = n) : ∃ A c, V = .slice A n c := by
  subst hn
  obtain ⟨cs, _, _, ho⟩ := h
  rcases ho.2 with ⟨rfl, h0⟩ | ⟨g, cap, cur, rfl, _⟩
  · exact ⟨none, 0, by rw [h0]⟩
  · exact ⟨_, _, rfl⟩
theorem TkCells.mem {w : World} {base : Nat} : ∀ (L : List Tk) (cs : List Value), TkCells w base cs L → ∀ t ∈ L, ∃ va ∈ cs, OwnA w base va t.ats
  | [], _, _, t, ht => by cases ht
  | u :: r, cs, ⟨va, rest, e, ha, hr⟩, t, ht => by
    subst e
    rcases List.mem_cons.1 ht with rfl | h
    · exact ⟨va, by simp, ha⟩
    · obtain ⟨v, hv, h2⟩ := TkCells.mem r rest hr t h
      exact ⟨v, List.mem_append_right _ hv, h2⟩
theorem TkCells.mapIn {w w' : World} {base : Nat} : ∀ (L : List Tk) (cs : List Value), (∀ v ∈ cs, ∀ l, OwnA w base v l → OwnA w' base v l) → TkCells w base cs L → TkCells w' base cs L
  | [], _, _, hc => hc
  | t :: r, cs, h, ⟨va, rest, e, ha, hr⟩ => by
    subst e
    exact ⟨va, rest, rfl, h va (by simp) t.ats ha, TkCells.mapIn r rest (fun v hv => h v (List.mem_append_right _ hv)) hr⟩
/-- tokens stay where the blocks of tokens, and the attributes' blocks below B, stay -/
theorem OwnL.stay {w w' : World} {base B : Nat} {V : Value} {L : List Tk} (h : OwnL w base B V L) (h1 : ∀ (g : Nat) (cur : Array Value), w.heap[g]? = some (.cells cur 36 (0, 0)) → w'.heap[g]? = w.heap[g]?)
    (h2 : ∀ (g : Nat) (cur : Array Value), g < B → w.heap[g]? = some (.cells cur 39 (0, 0)) → w'.heap[g]? = w.heap[g]?) : OwnL w' base B V L := by
  obtain ⟨cs, hc, hb, ho⟩ := h
  exact ⟨cs, TkCells.mapIn L cs (fun v hv l ha => own_stay ha fun g cur hg hc => h2 g cur (hb v hv g hg) hc) hc, hb, own_stay ho fun g cur _ hc => h1 g cur hc⟩
theorem OwnB.stay {w w' : World} {base : Nat} {v : Value} {l : List UInt8} (h : OwnB w base v l) (h1 : ∀ (g : Nat) (cur : Array Value), w.heap[g]? = some (.cells cur 5 (0, 0)) → w'.heap[g]? = w.heap[g]?) : OwnB w' base v l :=
  own_stay h fun g cur _ hc => h1 g cur hc
theorem OwnA.stay {w w' : World} {base : Nat} {v : Value} {l : List Att} (h : OwnA w base v l) (h1 : ∀ (g : Nat) (cur : Array Value), base ≤ g → w.heap[g]? = some (.cells cur 39 (0, 0)) → w'.heap[g]? = w.heap[g]?) : OwnA w' base v l :=
  own_stay h fun g cur hg hc => h1 g cur (World.ownsRow.lt h g hg).1 hc
theorem OwnA.shapeV {w : World} {base : Nat} {v : Value} {l : List Att} (h : OwnA w base v l) {n : Nat} (hn : l.length = n) : ∃ A c, v = .slice A n c := by
  subst hn
  rcases h.2 with ⟨rfl, h0⟩ | ⟨g, cap, cur, rfl, _⟩
  · exact ⟨none, 0, by rw [h0]⟩
  · exact ⟨_, _, rfl⟩

/-- the reader's block and rows -/
structure Rg (w : World) (base R : Nat) (cs : Array Value) (VO VT VA : Value) (B : Nat) (O : List Tk) (X : List UInt8) (A : List Att) : Prop where
  hR : base ≤ R
  hB : base ≤ B
  hs : B ≤ w.heap.size
  blk : Blk w R 52 cs
  out : OwnL w base B VO O
  text : OwnB w base VT X
  ats : OwnA w B VA A
section
variable {w w' W : World} {base R : Nat} {cs : Array Value} {VO VT VA : Value} {B : Nat} {O : List Tk} {X : List UInt8} {A : List Att}
theorem Rg.size (h : Rg w base R cs VO VT VA B O X A) : base ≤ w.heap.size := Nat.le_trans h.hB h.hs
theorem Rg.lt (h : Rg w base R cs VO VT VA B O X A) : R < w.heap.size := h.blk.lt
/-- all but the reader's block stays -/
theorem Rg.far (h : Rg w base R cs VO VT VA B O X A) (hsz : w.heap.size ≤ w'.heap.size) (hk : ∀ g, g < w.heap.size → g ≠ R → w'.heap[g]? = w.heap[g]?) {cs' : Array Value} (hb : Blk w' R 52 cs') : Rg w' base R cs' VO VT VA B O X A := by
  have key : ∀ (g : Nat) (t : TypeId) (cur : Array Value), t ≠ 52 → w.heap[g]? = some (.cells cur t (0, 0)) → w'.heap[g]? = w.heap[g]? := fun g t cur ht hg =>
    hk g (Blk.lt (t := t) (cs := cur) hg) (Blk.ne_ (t := t) (cs := cur) hg h.blk ht)
  exact ⟨h.hR, h.hB, Nat.le_trans h.hs hsz, hb, OwnL.stay h.out (fun g cur hc => key g _ cur (by decide) hc) (fun g cur _ hc => key g _ cur (by decide) hc), OwnB.stay h.text fun g cur hc => key g _ cur (by decide) hc, OwnA.stay h.ats fun g cur _ hc => key g _ cur (by decide) hc⟩
theorem Rg.keep (h : Rg w base R cs VO VT VA B O X A) (hb : Below w.heap.size w w') : Rg w' base R cs VO VT VA B O X A :=
  h.far hb.size (fun g hg _ => hb.block g hg) (h.blk.below hb h.lt)
theorem Rg.set (h : Rg w base R cs VO VT VA B O X A) (j : Nat) (v : Value) : Rg (w.setCell ⟨R, j, none⟩ v) base R (cs.setIfInBounds j v) VO VT VA B O X A :=
  h.far (by simp [World.setCell]) (fun g _ hg => Below.heap_setCell w _ _ g hg) (h.blk.set_ j v)
theorem Rg.drew (h : Rg w base R cs VO VT VA B O X A) : Rg w.drew base R cs VO VT VA B O X A := h.keep (Below.refl _ _).drew
theorem Rg.dN (h : Rg w base R cs VO VT VA B O X A) (n : Nat) : Rg (w.drewN n) base R cs VO VT VA B O X A := h.keep (below_dN _ w n)
theorem Rg.alloc (h : Rg w base R cs VO VT VA B O X A) (o : Obj) : Rg (w.alloc o) base R cs VO VT VA B O X A := h.keep (alloc_below w o)
theorem Rg.fz (h : Rg w base R cs VO VT VA B O X A) (j : Nat) : w.frozen? ⟨R, j, none⟩ = false := h.blk.frozen j
theorem Rg.cell (h : Rg w base R cs VO VT VA B O X A) (j : Nat) {v : Value} (hv : cs[j]? = some v) : w.cell? ⟨R, j, none⟩ = some v := (h.blk.cell j).trans hv
/-- what the walk's world is below 'base' -/
theorem Rg.bset (h : Rg w base R cs VO VT VA B O X A) {w0 : World} (hb : Below base w0 w) (j : Nat) (v : Value) : Below base w0 (w.setCell ⟨R, j, none⟩ v) := below_set hb ⟨R, j, none⟩ v h.hR
theorem Rg.bkeep (h : Rg w base R cs VO VT VA B O X A) {w0 : World} (hb : Below base w0 w) (hk : Below w.heap.size w w') : Below base w0 w' := hb.trans (hk.mono h.size)
/-- the text, grown -/
theorem Rg.growT (h : Rg w base R cs VO VT VA B O X A) (hg : w.grownBy w' VT.ownBlock) {VT' : Value} {X' : List UInt8} (ho : OwnB w' base VT' X') : Rg w' base R cs VO VT' VA B O X' A := by
  have key : ∀ (g : Nat) (t : TypeId) (cur : Array Value), t ≠ 5 → w.heap[g]? = some (.cells cur t (0, 0)) → w'.heap[g]? = w.heap[g]? := fun g t cur ht hc =>
    hg.block g (Blk.lt (t := t) (cs := cur) hc) fun e => own_blk_ne h.text (t := t) (cs := cur) hc (Ne.symm ht) e.symm
  exact ⟨h.hR, h.hB, Nat.le_trans h.hs hg.size, (key R _ _ (by decide) h.blk).trans h.blk, OwnL.stay h.out (fun g cur hc => key g _ cur (by decide) hc) (fun g cur _ hc => key g _ cur (by decide) hc), ho, OwnA.stay h.ats fun g cur _ hc => key g _ cur (by decide) hc⟩
/-- a row of the reader's, grown: what lies below 'base' stays -/
theorem below_grown {w0 : World} (hb : Below base w0 w) (hs : base ≤ w.heap.size) {V : Value} (hV : ∀ g, V.ownBlock = some g → base ≤ g) (hg : w.grownBy w' V.ownBlock) : Below base w0 w' :=
  ⟨hg.os.trans hb.os, hg.tape.trans hb.tape, hg.output.trans hb.output, Nat.le_trans hb.size hg.size, fun k hk => (hg.block k (by omega) (fun e => by have := hV k e.symm; omega)).trans (hb.block k hk)⟩
theorem OwnL.lo_ {B : Nat} {V : Value} {L : List Tk} (h : OwnL w base B V L) : ∀ g, V.ownBlock = some g → base ≤ g := by
  obtain ⟨cs, _, _, ho⟩ := h
  exact fun g e => (World.ownsRow.lt ho g e).1
theorem OwnA.lo_ {V : Value} {l : List Att} (h : OwnA w base V l) : ∀ g, V.ownBlock = some g → base ≤ g := fun g e => (World.ownsRow.lt h g e).1
/-- the attributes, grown -/
theorem Rg.growA (h : Rg w base R cs VO VT VA B O X A) (hg : w.grownBy w' VA.ownBlock) {VA' : Value} {A' : List Att} (ho : OwnA w' B VA' A') : Rg w' base R cs VO VT VA' B O X A' := by
  have key : ∀ (g : Nat) (t : TypeId) (cur : Array Value), t ≠ 39 → w.heap[g]? = some (.cells cur t (0, 0)) → w'.heap[g]? = w.heap[g]? := fun g t cur ht hc =>
    hg.block g (Blk.lt (t := t) (cs := cur) hc) fun e => own_blk_ne h.ats (t := t) (cs := cur) hc (Ne.symm ht) e.symm
  exact ⟨h.hR, h.hB, Nat.le_trans h.hs hg.size, (key R _ _ (by decide) h.blk).trans h.blk, OwnL.stay h.out (fun g cur hc => key g _ cur (by decide) hc) (fun g cur hlt hc => hg.block g (Blk.lt (t := 39) (cs := cur) hc) (fun e => by have := OwnA.lo_ h.ats g e.symm; omega)), OwnB.stay h.text fun g cur hc => key g _ cur (by decide) hc, ho⟩
/-- the tokens, grown by one whose attributes are no row of the reader's -/
theorem Rg.growO (h : Rg w base R cs VO VT VA B O X A) (hg : w.grownBy w' VO.ownBlock) {xs : List Value} {VO' : Value} {n : Nat} {k : Int} {tn tx : ByteArray} {cl : Bool} (hxs : ∃ cs0, TkCells w base cs0 O ∧ (∀ v ∈ cs0, ∀ g, v.ownBlock = some g → g < B) ∧ xs = cs0 ++ [.int .i64 k, .string tn, .string tx, .slice none 0 0, .bool cl])
    (hn : O.length = n) (ho : w'.ownsRow base 36 5 VO' (n + 1) xs) : Rg w' base R cs VO' VT VA B (O ++ [⟨k, tn.data.toList, tx.data.toList, [], cl⟩]) X A := by
  have key : ∀ (g : Nat) (t : TypeId) (cur : Array Value), t ≠ 36 → w.heap[g]? = some (.cells cur t (0, 0)) → w'.heap[g]? = w.heap[g]? := fun g t cur ht hc => by
    obtain ⟨cs1, _, _, ho1⟩ := h.out
    exact hg.block g (Blk.lt (t := t) (cs := cur) hc) fun e => own_blk_ne ho1 (t := t) (cs := cur) hc (Ne.symm ht) e.symm
  obtain ⟨cs0, hc, hb, rfl⟩ := hxs
  refine ⟨h.hR, h.hB, Nat.le_trans h.hs hg.size, (key R _ _ (by decide) h.blk).trans h.blk, ⟨cs0 ++ [.int .i64 k, .string tn, .string tx, .slice none 0 0, .bool cl], ?_, ?_, ?_⟩, OwnB.stay h.text fun g cur hc => key g _ cur (by decide) hc, OwnA.stay h.ats fun g cur _ hc => key g _ cur (by decide) hc⟩
  · have := TkCells.snoc (t := ⟨k, tn.data.toList, tx.data.toList, [], cl⟩) (va := .slice none 0 0) (OwnA.nil w' base) O cs0 (TkCells.mapIn O cs0 (fun v _ l ha => own_stay ha fun g cur _ hc => key g _ cur (by decide) hc) hc)
    rw [← bs_of (t := tn) rfl, ← bs_of (t := tx) rfl] at this
    exact this
  · intro v hv g0 hg0
    rcases List.mem_append.1 hv with h1 | h1
    · exact hb v h1 g0 hg0
    · simp only [List.mem_cons, List.not_mem_nil, or_false] at h1
      rcases h1 with rfl | rfl | rfl | rfl | rfl <;> cases hg0
  · rw [List.length_append, hn]
    exact ho
/-- the tokens, grown by the reader's tag: its attributes are the list's now -/
theorem Rg.growE (h : Rg w base R cs VO VT VA B O X A) (hg : w.grownBy w' VO.ownBlock) {xs : List Value} {VO' : Value} {n : Nat} {k : Int} {tn tx : ByteArray} {cl : Bool} (hxs : ∃ cs0, TkCells w base cs0 O ∧ (∀ v ∈ cs0, ∀ g, v.ownBlock = some g → g < B) ∧ xs = cs0 ++ [.int .i64 k, .string tn, .string tx, VA, .bool cl])
    (hn : O.length = n) (ho : w'.ownsRow base 36 5 VO' (n + 1) xs) : Rg w' base R cs VO' VT (.slice none 0 0) w'.heap.size (O ++ [⟨k, tn.data.toList, tx.data.toList, A, cl⟩]) X [] := by
  have key : ∀ (g : Nat) (t : TypeId) (cur : Array Value), t ≠ 36 → w.heap[g]? = some (.cells cur t (0, 0)) → w'.heap[g]? = w.heap[g]? := fun g t cur ht hc => by
    obtain ⟨cs1, _, _, ho1⟩ := h.out
    exact hg.block g (Blk.lt (t := t) (cs := cur) hc) fun e => own_blk_ne ho1 (t := t) (cs := cur) hc (Ne.symm ht) e.symm
  obtain ⟨cs0, hc, hb, rfl⟩ := hxs
  have hA : OwnA w' B VA A := OwnA.stay h.ats fun g cur _ hc => key g _ cur (by decide) hc
  refine ⟨h.hR, Nat.le_trans h.size hg.size, Nat.le_refl _, (key R _ _ (by decide) h.blk).trans h.blk, ⟨cs0 ++ [.int .i64 k, .string tn, .string tx, VA, .bool cl], ?_, ?_, ?_⟩, OwnB.stay h.text fun g cur hc => key g _ cur (by decide) hc, OwnA.nil _ _⟩
  · have hA0 : OwnA w' base VA A := by
      refine ⟨hA.1, ?_⟩
      rcases hA.2 with h0 | ⟨g, cap, cur, e, hb0, h1⟩
      · exact .inl h0
      · exact .inr ⟨g, cap, cur, e, Nat.le_trans h.hB hb0, h1⟩
    have := TkCells.snoc (t := ⟨k, tn.data.toList, tx.data.toList, A, cl⟩) (va := VA) hA0 O cs0 (TkCells.mapIn O cs0 (fun v _ l ha => own_stay ha fun g cur _ hc => key g _ cur (by decide) hc) hc)
    rw [← bs_of (t := tn) rfl, ← bs_of (t := tx) rfl] at this
    exact this
  · intro v hv g0 hg0
    rcases List.mem_append.1 hv with h1 | h1
    · have := hb v h1 g0 hg0
      have := h.hs
      have := hg.size
      omega
    · simp only [List.mem_cons, List.not_mem_nil, or_false] at h1
      rcases h1 with rfl | rfl | rfl | rfl | rfl
      · cases hg0
      · cases hg0
      · cases hg0
      · exact (World.ownsRow.lt hA g0 hg0).2
      · cases hg0
  · rw [List.length_append, hn]
    exact ho
end
theorem Rg.dropA {w : World} {base R : Nat} {cs : Array Value} {VO VT VA : Value} {B : Nat} {O : List Tk} {X : List UInt8} {A : List Att} (h : Rg w base R cs VO VT VA B O X A) : Rg w base R cs VO VT (.slice none 0 0) B O X [] := ⟨h.hR, h.hB, h.hs, h.blk, h.out, h.text, OwnA.nil _ _⟩
theorem Rg.dropT {w : World} {base R : Nat} {cs : Array Value} {VO VT VA : Value} {B : Nat} {O : List Tk} {X : List UInt8} {A : List Att} (h : Rg w base R cs VO VT VA B O X A) : Rg w base R cs VO (.slice none 0 0) VA B O [] A := ⟨h.hR, h.hB, h.hs, h.blk, h.out, OwnB.nil _ _, h.ats⟩
/-- the reader at rest: a machine's state -/
def rcs (s : ByteArray) (m : Mc) (VO VT VA : Value) : Array Value :=
  #[.string s, VO, .int .i64 (m.st : Int), VT, .int .i64 m.tag.k, .string (bs m.tag.n), .string (bs m.tag.x), VA, .bool m.tag.c, .string (bs m.a.1), .string (bs m.a.2), .int .u8 (m.quote.toNat : Int), .string (bs m.raw), .int .i64 m.kind]
def Rf (w : World) (base R : Nat) (s : ByteArray) (m : Mc) : Prop := ∃ VO VT VA B, Rg w base R (rcs s m VO VT VA) VO VT VA B m.out m.text m.tag.ats
/-- how long all of it is at most -/
structure Mb (b : Nat) (m : Mc) : Prop where
  text : m.text.length ≤ b
  n : m.tag.n.length ≤ b
  a1 : m.a.1.length ≤ b
  a2 : m.a.2.length ≤ b
  raw : m.raw.length ≤ b
  out : m.out.length ≤ b
  ats : m.tag.ats.length ≤ b
theorem Mb.up {b b' : Nat} {m : Mc} (h : Mb b m) (hb : b ≤ b') : Mb b' m := ⟨Nat.le_trans h.text hb, Nat.le_trans h.n hb, Nat.le_trans h.a1 hb, Nat.le_trans h.a2 hb, Nat.le_trans h.raw hb, Nat.le_trans h.out hb, Nat.le_trans h.ats hb⟩
theorem Rf.keep {w w' : World} {base R : Nat} {s : ByteArray} {m : Mc} (h : Rf w base R s m) (hb : Below w.heap.size w w') : Rf w' base R s m := by
  obtain ⟨VO, VT, VA, B, h⟩ := h
  exact ⟨VO, VT, VA, B, h.keep hb⟩
theorem Rf.rgs {w : World} {base R : Nat} {s : ByteArray} {m m' : Mc} {cs : Array Value} {VO VT VA : Value} {B : Nat} (h : Rg w base R cs VO VT VA B m.out m.text m.tag.ats) (hc : cs = rcs s m' VO VT VA) (h1 : m'.out = m.out) (h2 : m'.text = m.text) (h3 : m'.tag.ats = m.tag.ats) : Rf w base R s m' := by
  subst hc
  refine ⟨VO, VT, VA, B, ?_⟩
  rw [h1, h2, h3]
  exact h
end Go.Proofs.Ytihgmgpcdodknaa
