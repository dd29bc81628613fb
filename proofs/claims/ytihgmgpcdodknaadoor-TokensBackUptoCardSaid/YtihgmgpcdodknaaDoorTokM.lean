/- Tokens in memory; the reader behind its pointer. -/
import Derived.Test.YtihgmgpcdodknaaDoorTokP
import Derived.Test.YtihgmgpcdodknaaDoorReads
set_option linter.unusedVariables false
namespace Go.Proofs.YtihgmgpcdodknaaDoor
open Go.RowKit

def bs (l : List UInt8) : ByteArray := ⟨l.toArray⟩
theorem bs_list (l : List UInt8) : (bs l).data.toList = l := rfl
theorem bs_of {t : ByteArray} {l : List UInt8} (h : t.data.toList = l) : t = bs l := by
  cases t with
  | mk d => subst h; rfl
def attCells (l : List Att) : List Value := l.flatMap fun a => [.string (bs a.1), .string (bs a.2)]
theorem attCells_snoc (l : List Att) (a : Att) : attCells (l ++ [a]) = attCells l ++ [.string (bs a.1), .string (bs a.2)] := by simp [attCells]
/-- the value owns, from block 'base' on, just these attributes -/
def OwnA (w : World) (base : Nat) (v : Value) (l : List Att) : Prop := w.ownsRow base 95 2 v l.length (attCells l)
theorem OwnA.nil (w : World) (base : Nat) : OwnA w base (.slice none 0 0) [] := World.ownsRow_nil w base _ _
/-- the cells of tokens -/
def TkCells (w : World) (base : Nat) : List Value → List Tk → Prop
  | cs, [] => cs = []
  | cs, t :: r => ∃ va rest, cs = [.int .i64 t.k, .string (bs t.n), .string (bs t.x), va, .bool t.c] ++ rest ∧ OwnA w base va t.ats ∧ TkCells w base rest r
/-- the value owns, from block 'base' on, just these tokens -/
def OwnT (w : World) (base : Nat) (V : Value) (L : List Tk) : Prop := ∃ cs, TkCells w base cs L ∧ w.ownsRow base 53 5 V L.length cs
theorem OwnT.nil (w : World) (base : Nat) : OwnT w base (.slice none 0 0) [] := ⟨[], rfl, World.ownsRow_nil w base _ _⟩
theorem TkCells.map {w w' : World} {base : Nat} (h : ∀ v l, OwnA w base v l → OwnA w' base v l) : ∀ (L : List Tk) (cs : List Value), TkCells w base cs L → TkCells w' base cs L
  | [], _, hc => hc
  | t :: r, cs, ⟨va, rest, e, ha, hr⟩ => ⟨va, rest, e, h va t.ats ha, TkCells.map h r rest hr⟩
theorem TkCells.snoc {w : World} {base : Nat} {t : Tk} {va : Value} (ha : OwnA w base va t.ats) : ∀ (L : List Tk) (cs : List Value), TkCells w base cs L → TkCells w base (cs ++ [.int .i64 t.k, .string (bs t.n), .string (bs t.x), va, .bool t.c]) (L ++ [t])
  | [], _, hc => by
    obtain rfl : _ = [] := hc
    exact ⟨va, [], by simp, ha, rfl⟩
  | u :: r, cs, ⟨vu, rest, e, hu, hr⟩ => by
    subst e
    exact ⟨vu, _, by rw [List.append_assoc], hu, TkCells.snoc ha r rest hr⟩
theorem TkCells.one {w : World} {base : Nat} : ∀ (L : List Tk) (cs : List Value), TkCells w base cs L → ∀ u ∈ cs, u.oneCell' = true
  | [], _, hc, u, hu => by
    obtain rfl : _ = [] := hc
    simp at hu
  | t :: r, cs, ⟨va, rest, e, ha, hr⟩, u, hu => by
    subst e
    rcases List.mem_append.1 hu with h | h
    · simp only [List.mem_cons, List.not_mem_nil, or_false] at h
      rcases h with rfl | rfl | rfl | rfl | rfl
      · rfl
      · rfl
      · rfl
      · rcases ha.2 with ⟨rfl, _⟩ | ⟨g, cap, cur, rfl, _⟩ <;> rfl
      · rfl
    · exact TkCells.one r rest hr u h

/-- a row stays where its block stays -/
theorem own_stay {w w' : World} {base : Nat} {e : TypeId} {size n : Nat} {v : Value} {xs : List Value} (h : w.ownsRow base e size v n xs) (hk : ∀ g cur, v.ownBlock = some g → w.heap[g]? = some (.cells cur e (0, 0)) → w'.heap[g]? = w.heap[g]?) : w'.ownsRow base e size v n xs := by
  refine ⟨h.1, ?_⟩
  rcases h.2 with h0 | ⟨g, cap, cur, rfl, hb, hg, h1⟩
  · exact .inl h0
  · exact .inr ⟨g, cap, cur, rfl, hb, (hk g cur rfl hg).trans hg, h1⟩

/-! ### What a walk of the reader leaves as it is -/
structure Fr (R : Nat) (row row' : Option Nat) (w w' : World) : Prop where
  os : w'.os = w.os
  tape : w'.tape = w.tape
  output : w'.output = w.output
  size : w.heap.size ≤ w'.heap.size
  block : ∀ k, k < w.heap.size → k ≠ R → some k ≠ row → w'.heap[k]? = w.heap[k]?
  own : row' = row ∨ ∃ g, row' = some g ∧ w.heap.size ≤ g
theorem Fr.refl (R : Nat) (row : Option Nat) (w : World) : Fr R row row w w := ⟨rfl, rfl, rfl, Nat.le_refl _, fun _ _ _ _ => rfl, .inl rfl⟩
theorem Fr.trans {R : Nat} {a b c : Option Nat} {w1 w2 w3 : World} (h : Fr R a b w1 w2) (k : Fr R b c w2 w3) : Fr R a c w1 w3 := by
  refine ⟨k.os.trans h.os, k.tape.trans h.tape, k.output.trans h.output, Nat.le_trans h.size k.size, fun j hj hR ha => ?_, ?_⟩
  · have hb : some j ≠ b := by
      rcases h.own with e | ⟨g, e, hg⟩
      · rw [e]; exact ha
      · rw [e]; intro e2; injection e2 with e2; omega
    exact (k.block j (Nat.lt_of_lt_of_le hj h.size) hR hb).trans (h.block j hj hR ha)
  · rcases k.own with e | ⟨g, e, hg⟩
    · rw [e]; exact h.own
    · exact .inr ⟨g, e, Nat.le_trans h.size hg⟩
theorem Fr.of_below {R : Nat} {a : Option Nat} {w w' : World} (hb : Below w.heap.size w w') : Fr R a a w w' := ⟨hb.os, hb.tape, hb.output, hb.size, fun k hk _ _ => hb.block k hk, .inl rfl⟩
theorem Fr.setR {R : Nat} {a : Option Nat} {w : World} (j : Nat) (v : Value) : Fr R a a w (w.setCell ⟨R, j, none⟩ v) :=
  ⟨rfl, rfl, rfl, by simp [World.setCell], fun k _ hR _ => Below.heap_setCell w _ v k hR, .inl rfl⟩
theorem Fr.drew {R : Nat} {a b : Option Nat} {w w' : World} (h : Fr R a b w w') : Fr R a b w w'.drew := ⟨h.os, h.tape, h.output, h.size, h.block, h.own⟩
theorem Fr.drewN {R : Nat} {a b : Option Nat} {w w' : World} (h : Fr R a b w w') (n : Nat) : Fr R a b w (w'.drewN n) := ⟨h.os, h.tape, h.output, h.size, h.block, h.own⟩
theorem Fr.below {R base : Nat} {a b : Option Nat} {w w' : World} (h : Fr R a b w w') (hR : base ≤ R) (ha : ∀ g, a = some g → base ≤ g) (hB : base ≤ w.heap.size) : Below base w w' :=
  ⟨h.os, h.tape, h.output, h.size, fun k hk => h.block k (by omega) (by omega) (fun e => by have := ha k e.symm; omega)⟩
theorem Fr.blk {R : Nat} {a b : Option Nat} {w w' : World} (h : Fr R a b w w') {g : Nat} {t : TypeId} {cs : Array Value} (hg : Blk w g t cs) (hR : g ≠ R) (ha : some g ≠ a) : Blk w' g t cs := (h.block g hg.lt hR ha).trans hg

/-! ### The reader -/
/-- the reader's block: the text, where it is, the tokens so far -/
def Rd (w : World) (base R : Nat) (s : ByteArray) (k : Nat) (V : Value) (L : List Tk) : Prop :=
  (base ≤ R ∧ base ≤ w.heap.size) ∧ Blk w R 64 #[.string s, .int .i64 (k : Int), V] ∧ OwnT w base V L
theorem Rd.lt {w : World} {base R : Nat} {s : ByteArray} {k : Nat} {V : Value} {L : List Tk} (h : Rd w base R s k V L) : R < w.heap.size := h.2.1.lt
theorem Rd.c0 {w : World} {base R : Nat} {s : ByteArray} {k : Nat} {V : Value} {L : List Tk} (h : Rd w base R s k V L) : w.cell? ⟨R, 0, none⟩ = some (.string s) := (h.2.1.cell 0).trans rfl
theorem Rd.c1 {w : World} {base R : Nat} {s : ByteArray} {k : Nat} {V : Value} {L : List Tk} (h : Rd w base R s k V L) : w.cell? ⟨R, 1, none⟩ = some (.int .i64 (k : Int)) := (h.2.1.cell 1).trans rfl
theorem Rd.c2 {w : World} {base R : Nat} {s : ByteArray} {k : Nat} {V : Value} {L : List Tk} (h : Rd w base R s k V L) : w.cell? ⟨R, 2, none⟩ = some V := (h.2.1.cell 2).trans rfl
theorem Rd.fz {w : World} {base R : Nat} {s : ByteArray} {k : Nat} {V : Value} {L : List Tk} (h : Rd w base R s k V L) (j : Nat) : w.frozen? ⟨R, j, none⟩ = false := h.2.1.frozen j
theorem Rd.shape {w : World} {base R : Nat} {s : ByteArray} {k : Nat} {V : Value} {L : List Tk} (h : Rd w base R s k V L) {n : Nat} (hn : L.length = n) : ∃ A c, V = .slice A n c := by
  subst hn
  obtain ⟨cs, _, ho⟩ := h.2.2
  rcases ho.2 with ⟨rfl, h0⟩ | ⟨g, cap, cur, rfl, _⟩
  · exact ⟨none, 0, by rw [h0]⟩
  · exact ⟨_, _, rfl⟩
theorem Rd.own {w : World} {base R : Nat} {s : ByteArray} {k : Nat} {V : Value} {L : List Tk} (h : Rd w base R s k V L) : ∀ g, V.ownBlock = some g → base ≤ g ∧ g < w.heap.size := by
  obtain ⟨cs, _, ho⟩ := h.2.2
  exact World.ownsRow.lt ho
theorem Rd.ne {w : World} {base R : Nat} {s : ByteArray} {k : Nat} {V : Value} {L : List Tk} (h : Rd w base R s k V L) : V.ownBlock ≠ some R := by
  obtain ⟨cs, _, ho⟩ := h.2.2
  exact own_blk_ne ho h.2.1 (by decide)
/-- what is apart from the reader's block stays with it -/
theorem OwnT.stay {w w' : World} {base : Nat} {V : Value} {L : List Tk} (h : OwnT w base V L) (R : Nat) (cs : Array Value) (hR : Blk w R 64 cs) (hk : ∀ g, g < w.heap.size → g ≠ R → w'.heap[g]? = w.heap[g]?) : OwnT w' base V L := by
  obtain ⟨xs, hx, ho⟩ := h
  have key : ∀ (g : Nat) (t : TypeId) (cur : Array Value), t ≠ 64 → w.heap[g]? = some (.cells cur t (0, 0)) → w'.heap[g]? = w.heap[g]? := fun g t cur ht hg =>
    hk g (Blk.lt (t := t) (cs := cur) hg) (Blk.ne_ (t := t) (cs := cur) hg hR ht)
  exact ⟨xs, TkCells.map (fun v l hv => own_stay hv fun g cur _ hg => key g _ cur (by decide) hg) L xs hx, own_stay ho fun g cur _ hg => key g _ cur (by decide) hg⟩
theorem Rd.keep {w w' : World} {base R : Nat} {s : ByteArray} {k : Nat} {V : Value} {L : List Tk} (h : Rd w base R s k V L) (hb : Below w.heap.size w w') : Rd w' base R s k V L :=
  ⟨⟨h.1.1, Nat.le_trans h.1.2 hb.size⟩, h.2.1.below hb h.lt, h.2.2.stay R _ h.2.1 fun g hg _ => hb.block g hg⟩
theorem Rd.at_ {w : World} {base R : Nat} {s : ByteArray} {k : Nat} {V : Value} {L : List Tk} (h : Rd w base R s k V L) (k' : Nat) : Rd (w.setCell ⟨R, 1, none⟩ (.int .i64 (k' : Int))) base R s k' V L :=
  ⟨⟨h.1.1, by simpa [World.setCell] using h.1.2⟩, h.2.1.set_ 1 _, h.2.2.stay R _ h.2.1 fun g _ hR => Below.heap_setCell w _ _ g hR⟩
/-- its tokens, stored anew -/
theorem Rd.put {w : World} {base R : Nat} {s : ByteArray} {k : Nat} {V V' : Value} {L' : List Tk} (hB : base ≤ R ∧ base ≤ w.heap.size) (h : Blk w R 64 #[.string s, .int .i64 (k : Int), V]) (ho : OwnT w base V' L') : Rd (w.setCell ⟨R, 2, none⟩ V') base R s k V' L' :=
  ⟨⟨hB.1, by simpa [World.setCell] using hB.2⟩, h.set_ 2 _, ho.stay R _ h fun g _ hR => Below.heap_setCell w _ _ g hR⟩
/-- other rows beside the reader's tokens -/
theorem OwnA.fr {w w' : World} {base base' R : Nat} {v : Value} {l : List Att} {row' : Option Nat} {V : Value} {n : Nat} {xs : List Value} {cs : Array Value} (h : OwnA w base v l) (hR : Blk w R 64 cs) (hV : w.ownsRow base' 53 5 V n xs) (f : Fr R V.ownBlock row' w w') : OwnA w' base v l :=
  own_stay h fun g cur hg hc => f.block g (Blk.lt (t := 95) (cs := cur) hc) (Blk.ne_ (t := 95) (cs := cur) hc hR (by decide)) fun e => own_blk_ne hV (t := 95) (cs := cur) hc (by decide) e.symm

/-! ### What the reader's methods answer -/
/-- nothing told, or a panic -/
def RT (base R : Nat) (s : ByteArray) (V : Value) (w : World) (k : Nat) (o : Option (List Tk)) (e : Ending) (w' : World) : Prop :=
  match o with
  | none => e = .panicked [{ v := .iface 24 (.int .i64 3), recovered := false }] ∧ ∃ row, Fr R V.ownBlock row w w'
  | some L' => e = .returned (.tuple #[]) ∧ ∃ V', Rd w' base R s k V' L' ∧ Fr R V.ownBlock V'.ownBlock w w'
/-- does it go on? -/
def RB (base R : Nat) (s : ByteArray) (V : Value) (w : World) (o : Res) (e : Ending) (w' : World) : Prop :=
  match o with
  | none => e = .panicked [{ v := .iface 24 (.int .i64 3), recovered := false }] ∧ ∃ row, Fr R V.ownBlock row w w'
  | some (b, L', r) => e = .returned (.bool b) ∧ ∃ V' k', k' ≤ s.size ∧ (b = true → s.data.toList.drop k' = r) ∧ Rd w' base R s k' V' L' ∧ Fr R V.ownBlock V'.ownBlock w w'
end Go.Proofs.YtihgmgpcdodknaaDoor
