import Derived.Laws.OwnMore
import Derived.WalkSmall
import Derived.Laws.ResultCell
import Derived.Test.YtkcnmjdomipbjaaGreatS16
set_option linter.unusedVariables false
set_option maxHeartbeats 100000000
set_option maxRecDepth 100000
namespace Go.Proofs.YtkcnmjdomipbjaaGreat
open Go.RowKit
structure It where
 k : Int
 x : ByteArray
 pl : Int
def It.row (i : It) : List Dt := [.int .i64 i.k, .str i.x, .int .i64 i.pl]
def strRows (l : List ByteArray) : List (List Dt) := l.map fun x => [.str x]
structure Ar where
 k : Int
 nm : ByteArray
 path : List ByteArray
 n : Int
 x : ByteArray
def Ar.row (a : Ar) : List Dt := [.int .i64 a.k, .str a.nm, .rows 1 (strRows a.path), .int .i64 a.n, .str a.x]
structure Ca where
 nm : ByteArray
 args : List Ar
def Ca.row (c : Ca) : List Dt := [.str c.nm, .rows 5 (c.args.map Ar.row)]
inductive Tn where
 | mk (k : Int) (x nm : ByteArray) (p : List Ca) (b e : List Tn) (a s u : Int)
mutual
def Tn.row : Tn -> List Dt
 | .mk k x nm p b e a s u => [.int .i64 k, .str x, .str nm, .rows 2 (p.map Ca.row), .rows 9 (tnRows b), .rows 9 (tnRows e), .int .i64 a, .int .i64 s, .int .i64 u]
def tnRows : List Tn -> List (List Dt)
 | [] => []
 | n :: r => n.row :: tnRows r
end
theorem tnRows_map : ∀ l : List Tn, tnRows l = l.map Tn.row
 | [] => rfl
 | n :: r => by rw [tnRows, tnRows_map r]; rfl
structure Df where
 nm : ByteArray
 b : List Tn
def Df.row (d : Df) : List Dt := [.str d.nm, .rows 9 (tnRows d.b)]
inductive Vd where
 | mk (k n : Int) (x : ByteArray) (l : List Vd) (ks : List ByteArray)
mutual
def Vd.row : Vd -> List Dt
 | .mk k n x l ks => [.int .i64 k, .int .i64 n, .str x, .rows 5 (vdRows l), .rows 1 (strRows ks)]
def vdRows : List Vd -> List (List Dt)
 | [] => []
 | v :: r => v.row :: vdRows r
end
theorem vdRows_map : ∀ l : List Vd, vdRows l = l.map Vd.row
 | [] => rfl
 | v :: r => by rw [vdRows, vdRows_map r]; rfl
section
variable {w w' : World} {S S' : Nat -> Prop}
theorem DtV.int {k : IntKind} {n : Int} : DtV w S (.int k n) (.int k n) := by unfold DtV; rfl
theorem DtV.str {x : ByteArray} : DtV w S (.string x) (.str x) := by unfold DtV; rfl
theorem DtV.bool {b : Bool} : DtV w S (.bool b) (.bool b) := by unfold DtV; rfl
theorem DtV.none_ {sz c : Nat} : DtV w S (.slice none 0 c) (.rows sz []) := by unfold DtV; exact ⟨none, c, rfl, by unfold RowsV; trivial⟩
theorem DtV.rows {sz n c : Nat} {A : Option Addr} {l : List (List Dt)} (hn : n = l.length) (h : RowsV w S sz A 0 l) : DtV w S (.slice A n c) (.rows sz l) := by subst hn; unfold DtV; exact ⟨A, c, rfl, h⟩
theorem DtV.slice {v : Value} {sz : Nat} {l : List (List Dt)} (h : DtV w S v (.rows sz l)) {n : Nat} (hn : l.length = n) : ∃ A c, v = .slice A n c /\ RowsV w S sz A 0 l := by
 subst hn; unfold DtV at h; exact h
theorem RowsV.get {α : Type} {f : α -> List Dt} {l : List α} {sz : Nat} {A : Option Addr} (h : RowsV w S sz A 0 (l.map f)) {k : Nat} (hk : k < l.length) :
  ∃ ad, A = some ad /\ S ad.block /\ ad.block < w.heap.size /\ RowV w S (ad.add (k * sz)) 0 (f l[k]) := by
 obtain ⟨ad, e, h1, h2, _, h3⟩ := RowsV.at_ (k := k) (by simpa using hk) h
 rw [Nat.zero_add, List.getElem_map] at h3
 exact ⟨ad, e, h1, h2, h3⟩
theorem addr_zero (p : Addr) : p.add 0 = p := by cases p; simp [Addr.add]
theorem RowV.cons {ad : Addr} {j : Nat} {d : Dt} {t : List Dt} (h : RowV w S ad j (d :: t)) : (∃ v, w.cell? (ad.add j) = some v /\ DtV w S v d) /\ RowV w S ad (j + 1) t := by unfold RowV at h; exact h
theorem DtV.int_is {v : Value} {k : IntKind} {n : Int} (h : DtV w S v (.int k n)) : v = .int k n := by unfold DtV at h; exact h
theorem DtV.str_is {v : Value} {x : ByteArray} (h : DtV w S v (.str x)) : v = .string x := by unfold DtV at h; exact h
theorem RowV.int {p : Addr} {j : Nat} {k : IntKind} {n : Int} {t : List Dt} (h : RowV w S p j (.int k n :: t)) : w.cell? (p.add j) = some (.int k n) /\ RowV w S p (j + 1) t := by
 obtain ⟨⟨v, h1, h2⟩, h3⟩ := h.cons
 rw [h2.int_is] at h1; exact ⟨h1, h3⟩
theorem RowV.str {p : Addr} {j : Nat} {x : ByteArray} {t : List Dt} (h : RowV w S p j (.str x :: t)) : w.cell? (p.add j) = some (.string x) /\ RowV w S p (j + 1) t := by
 obtain ⟨⟨v, h1, h2⟩, h3⟩ := h.cons
 rw [h2.str_is] at h1; exact ⟨h1, h3⟩
theorem RowV.rows {p : Addr} {j sz n : Nat} {l : List (List Dt)} {t : List Dt} (h : RowV w S p j (.rows sz l :: t)) (hn : l.length = n) : (∃ A c, w.cell? (p.add j) = some (.slice A n c) /\ RowsV w S sz A 0 l) /\ RowV w S p (j + 1) t := by
 obtain ⟨⟨v, h1, h2⟩, h3⟩ := h.cons
 obtain ⟨A, c, e, h4⟩ := h2.slice hn
 rw [e] at h1; exact ⟨⟨A, c, h1, h4⟩, h3⟩
theorem add_one (p : Addr) (j : Nat) : p.add (j + 1) = ⟨p.block, p.off + (j + 1), none⟩ := (add_fld2 p j).symm
theorem It.at_ {p : Addr} {i : It} (h : RowV w S p 0 i.row) : w.cell? p = some (.int .i64 i.k) /\ w.cell? ⟨p.block, p.off + 1, none⟩ = some (.string i.x) /\ w.cell? ⟨p.block, p.off + 2, none⟩ = some (.int .i64 i.pl) := by
 unfold It.row at h
 obtain ⟨h0, h⟩ := h.int
 obtain ⟨h1, h⟩ := h.str
 obtain ⟨h2, h⟩ := h.int
 rw [addr_zero] at h0
 rw [add_one] at h1 h2
 exact ⟨h0, h1, h2⟩
theorem Str.at_ {p : Addr} {x : ByteArray} (h : RowV w S p 0 [.str x]) : w.cell? p = some (.string x) := by
 obtain ⟨h0, h⟩ := h.str
 rw [addr_zero] at h0; exact h0
theorem Ar.at_ {p : Addr} {a : Ar} {n : Nat} (h : RowV w S p 0 a.row) (hn : a.path.length = n) : w.cell? p = some (.int .i64 a.k) /\ w.cell? ⟨p.block, p.off + 1, none⟩ = some (.string a.nm) /\
  (∃ A c, w.cell? ⟨p.block, p.off + 2, none⟩ = some (.slice A n c) /\ RowsV w S 1 A 0 (strRows a.path)) /\ w.cell? ⟨p.block, p.off + 3, none⟩ = some (.int .i64 a.n) /\ w.cell? ⟨p.block, p.off + 4, none⟩ = some (.string a.x) := by
 unfold Ar.row at h
 obtain ⟨h0, h⟩ := h.int
 obtain ⟨h1, h⟩ := h.str
 obtain ⟨h2, h⟩ := h.rows (n := n) (by simpa [strRows] using hn)
 obtain ⟨h3, h⟩ := h.int
 obtain ⟨h4, h⟩ := h.str
 rw [addr_zero] at h0
 rw [add_one] at h1 h2 h3 h4
 exact ⟨h0, h1, h2, h3, h4⟩
theorem Ca.at_ {p : Addr} {a : Ca} {n : Nat} (h : RowV w S p 0 a.row) (hn : a.args.length = n) : w.cell? p = some (.string a.nm) /\
  (∃ A c, w.cell? ⟨p.block, p.off + 1, none⟩ = some (.slice A n c) /\ RowsV w S 5 A 0 (a.args.map Ar.row)) := by
 unfold Ca.row at h
 obtain ⟨h0, h⟩ := h.str
 obtain ⟨h1, h⟩ := h.rows (n := n) (by simpa using hn)
 rw [addr_zero] at h0
 rw [add_one] at h1
 exact ⟨h0, h1⟩
theorem Df.at_ {p : Addr} {d : Df} {n : Nat} (h : RowV w S p 0 d.row) (hn : d.b.length = n) : w.cell? p = some (.string d.nm) /\
  (∃ A c, w.cell? ⟨p.block, p.off + 1, none⟩ = some (.slice A n c) /\ RowsV w S 9 A 0 (tnRows d.b)) := by
 unfold Df.row at h
 obtain ⟨h0, h⟩ := h.str
 obtain ⟨h1, h⟩ := h.rows (n := n) (by rw [tnRows_map]; simpa using hn)
 rw [addr_zero] at h0
 rw [add_one] at h1
 exact ⟨h0, h1⟩
theorem Tn.at_ {p : Addr} {k : Int} {x nm : ByteArray} {pi : List Ca} {b e : List Tn} {a s u : Int} {np nb ne : Nat} (h : RowV w S p 0 (Tn.mk k x nm pi b e a s u).row) (h1 : pi.length = np) (h2 : b.length = nb) (h3 : e.length = ne) :
  ∃ Ap cp Ab cb Ae ce, w.cell? p = some (.int .i64 k) /\ w.cell? ⟨p.block, p.off + 1, none⟩ = some (.string x) /\ w.cell? ⟨p.block, p.off + 2, none⟩ = some (.string nm) /\
   w.cell? ⟨p.block, p.off + 3, none⟩ = some (.slice Ap np cp) /\ w.cell? ⟨p.block, p.off + 4, none⟩ = some (.slice Ab nb cb) /\ w.cell? ⟨p.block, p.off + 5, none⟩ = some (.slice Ae ne ce) /\
   w.cell? ⟨p.block, p.off + 6, none⟩ = some (.int .i64 a) /\ w.cell? ⟨p.block, p.off + 7, none⟩ = some (.int .i64 s) /\ w.cell? ⟨p.block, p.off + 8, none⟩ = some (.int .i64 u) /\
   RowsV w S 2 Ap 0 (pi.map Ca.row) /\ RowsV w S 9 Ab 0 (tnRows b) /\ RowsV w S 9 Ae 0 (tnRows e) := by
 rw [Tn.row] at h
 obtain ⟨c0, h⟩ := h.int
 obtain ⟨c1, h⟩ := h.str
 obtain ⟨c2, h⟩ := h.str
 obtain ⟨⟨Ap, cp, c3, r3⟩, h⟩ := h.rows (n := np) (by simpa using h1)
 obtain ⟨⟨Ab, cb, c4, r4⟩, h⟩ := h.rows (n := nb) (by rw [tnRows_map]; simpa using h2)
 obtain ⟨⟨Ae, ce, c5, r5⟩, h⟩ := h.rows (n := ne) (by rw [tnRows_map]; simpa using h3)
 obtain ⟨c6, h⟩ := h.int
 obtain ⟨c7, h⟩ := h.int
 obtain ⟨c8, h⟩ := h.int
 rw [addr_zero] at c0
 rw [add_one] at c1 c2 c3 c4 c5 c6 c7 c8
 exact ⟨Ap, cp, Ab, cb, Ae, ce, c0, c1, c2, c3, c4, c5, c6, c7, c8, r3, r4, r5⟩
theorem Vd.at_ {p : Addr} {k m : Int} {x : ByteArray} {l : List Vd} {ks : List ByteArray} {nl nk : Nat} (h : RowV w S p 0 (Vd.mk k m x l ks).row) (h1 : l.length = nl) (h2 : ks.length = nk) :
  ∃ Al cl Ak ck, w.cell? p = some (.int .i64 k) /\ w.cell? ⟨p.block, p.off + 1, none⟩ = some (.int .i64 m) /\ w.cell? ⟨p.block, p.off + 2, none⟩ = some (.string x) /\
   w.cell? ⟨p.block, p.off + 3, none⟩ = some (.slice Al nl cl) /\ w.cell? ⟨p.block, p.off + 4, none⟩ = some (.slice Ak nk ck) /\ RowsV w S 5 Al 0 (vdRows l) /\ RowsV w S 1 Ak 0 (strRows ks) := by
 rw [Vd.row] at h
 obtain ⟨c0, h⟩ := h.int
 obtain ⟨c1, h⟩ := h.int
 obtain ⟨c2, h⟩ := h.str
 obtain ⟨⟨Al, cl, c3, r3⟩, h⟩ := h.rows (n := nl) (by rw [vdRows_map]; simpa using h1)
 obtain ⟨⟨Ak, ck, c4, r4⟩, h⟩ := h.rows (n := nk) (by simpa [strRows] using h2)
 rw [addr_zero] at c0
 rw [add_one] at c1 c2 c3 c4
 exact ⟨Al, cl, Ak, ck, c0, c1, c2, c3, c4, r3, r4⟩
end
def dT (t : TypeId) : Bool := t == 52 || t == 135 || t == 137 || t == 9 || t == 107 || t == 128 || t == 124
def SD (b0 lo : Nat) (w : World) (b : Nat) : Prop := b < b0 ∨ lo <= b /\ ∃ cs t fr, w.heap[b]? = some (.cells cs t fr) /\ dT t = true
structure TF (X : TypeId -> Bool) (base : Nat) (w w' : World) : Prop where
 os : w'.os = w.os
 tape : w'.tape = w.tape
 output : w'.output = w.output
 size : w.heap.size <= w'.heap.size
 block : ∀ b, b < w.heap.size -> (b < base ∨ ∃ cs t fr, w.heap[b]? = some (.cells cs t fr) /\ X t = false) -> w'.heap[b]? = w.heap[b]?
section
variable {X : TypeId -> Bool} {base : Nat} {w w' w2 : World}
theorem TF.refl : TF X base w w := ⟨rfl, rfl, rfl, Nat.le_refl _, fun _ _ _ => rfl⟩
theorem TF.trans (h : TF X base w w') (k : TF X base w' w2) : TF X base w w2 :=
 ⟨k.os.trans h.os, k.tape.trans h.tape, k.output.trans h.output, Nat.le_trans h.size k.size, fun b hb hc => by
  have e := h.block b hb hc;refine (k.block b (Nat.lt_of_lt_of_le hb h.size) ?_).trans e;rcases hc with hc | ⟨cs, t, fr, hc, hx⟩
  ·exact .inl hc
  exact .inr ⟨cs, t, fr, e.trans hc, hx⟩⟩
theorem TF.of_below (h : Below w.heap.size w w') : TF X base w w' := ⟨h.os, h.tape, h.output, h.size, fun b hb _ => h.block b hb⟩
theorem TF.below (h : TF X base w w') (hb : Below w'.heap.size w' w2) : TF X base w w2 := h.trans (TF.of_below hb)
theorem TF.to_below (h : TF X base w w') (hb : base <= w.heap.size) : Below base w w' := ⟨h.os, h.tape, h.output, h.size, fun k hk => h.block k (Nat.lt_of_lt_of_le hk hb) (.inl hk)⟩
def MayT (X : TypeId -> Bool) (base n : Nat) (w : World) (g : Nat) : Prop := n <= g ∨ base <= g /\ ∃ cs t fr, w.heap[g]? = some (.cells cs t fr) /\ X t = true
theorem TF.ne_ (h : TF X base w w') {g : Nat} (hg : MayT X base w.heap.size w' g) {b : Nat} (hb : b < w.heap.size) (hc : b < base ∨ ∃ cs t fr, w.heap[b]? = some (.cells cs t fr) /\ X t = false) : b ≠ g := by
 rintro rfl
 rcases hg with hg | ⟨hg, cs, t, fr, h1, h2⟩
 ·omega
 rcases hc with hc | ⟨cs', t', fr', h3, h4⟩
 ·omega
 rw [h.block b hb (.inr ⟨cs', t', fr', h3, h4⟩), h3] at h1
 injection h1 with h1
 injection h1 with _ ht
 rw [ht, h2] at h4; cases h4
theorem TF.setCell (h : TF X base w w') {p : Addr} (hg : MayT X base w.heap.size w' p.block) (u : Value) : TF X base w (w'.setCell p u) :=
 ⟨h.os, h.tape, h.output, by rw [show (w'.setCell p u).heap.size = w'.heap.size by simp]; exact h.size, fun b hb hc => (Below.heap_setCell w' p u b (h.ne_ hg hb hc)).trans (h.block b hb hc)⟩
theorem TF.grown (h : TF X base w w') {ob : Option Nat} (hg : w'.grownBy w2 ob) (ho : ∀ g, ob = some g -> MayT X base w.heap.size w' g) : TF X base w w2 :=
 ⟨hg.os.trans h.os, hg.tape.trans h.tape, hg.output.trans h.output, Nat.le_trans h.size hg.size, fun b hb hc =>
  (hg.block b (Nat.lt_of_lt_of_le hb h.size) (fun e => h.ne_ (ho b e.symm) hb hc rfl)).trans (h.block b hb hc)⟩
theorem TF.alloc (h : TF X base w w') (o : Obj) : TF X base w (w'.alloc o) := h.below ((Below.refl _ _).alloc (Nat.le_refl _) o)
theorem TF.drew (h : TF X base w w') : TF X base w w'.drew := h.trans (TF.of_below (Below.refl _ _).drew)
theorem TF.drewN (h : TF X base w w') (n : Nat) : TF X base w (w'.drewN n) := h.trans (TF.of_below (below_drewN (Below.refl _ _) _))
theorem Blk.tf {g : Nat} {t : TypeId} {cs : Array Value} (h : Blk w g t cs) (hf : TF X base w w') (hx : X t = false) : Blk w' g t cs := (hf.block g h.lt (.inr ⟨_, _, _, h, hx⟩)).trans h
theorem Blk.mayT {n g : Nat} {t : TypeId} {cs : Array Value} (h : Blk w g t cs) (hx : X t = true) (hb : base <= g) : MayT X base n w g := .inr ⟨hb, _, _, _, h, hx⟩
end
def DtN (b0 lo : Nat) (w : World) (v : Value) (d : Dt) : Prop := DtV w (SD b0 lo w) v d
def RowsN (b0 lo : Nat) (w : World) (sz : Nat) (A : Option Addr) (l : List (List Dt)) : Prop := RowsV w (SD b0 lo w) sz A 0 l
def OwnN (b0 lo : Nat) (w : World) (base : Nat) (e : TypeId) (sz : Nat) (v : Value) (l : List (List Dt)) : Prop := OwnD w base (SD b0 lo w) e sz v l
def XD (X : TypeId -> Bool) : Prop := ∀ t, dT t = true -> X t = false
def infoOk (oi : Option TypeInfo) (sz : Nat) : Bool := oi.any fun i => (i.zero.any fun z => z.cells.size == sz) && i.size == sz && decide (i.bytes <= 1000) && decide (0 < sz)
theorem info_of {e : TypeId} {sz : Nat} (h : infoOk (Tryz.prog.info? e) sz = true) : ∃ i0 z, Tryz.prog.info? e = some i0 /\ i0.zero = some z /\ i0.size = sz /\ i0.bytes <= 1000 /\ z.cells.size = sz /\ 0 < sz := by
 unfold infoOk at h
 cases h1 : Tryz.prog.info? e with
 | none => rw [h1] at h; cases h
 | some i =>
  rw [h1] at h;simp only [Option.any_some, Bool.and_eq_true, beq_iff_eq, decide_eq_true_eq] at h;obtain ⟨⟨⟨h2, h3⟩, h4⟩, h5⟩ := h;cases h6 : i.zero with
  | none => rw [h6] at h2; cases h2
  | some z =>
   rw [h6] at h2;simp only [Option.any_some, beq_iff_eq] at h2;exact ⟨i, z, rfl, h6, h3, h4, h2, h5⟩
theorem info_string : infoOk (Tryz.prog.info? 9) 1 = true := by kernel_rfl
theorem info_Arg : infoOk (Tryz.prog.info? 137) 5 = true := by kernel_rfl
theorem info_Call : infoOk (Tryz.prog.info? 135) 2 = true := by kernel_rfl
theorem info_Item : infoOk (Tryz.prog.info? 107) 3 = true := by kernel_rfl
theorem info_Word : infoOk (Tryz.prog.info? 128) 3 = true := by kernel_rfl
theorem info_Node : infoOk (Tryz.prog.info? 52) 9 = true := by kernel_rfl
theorem info_Def : infoOk (Tryz.prog.info? 75) 2 = true := by kernel_rfl
theorem info_Named : infoOk (Tryz.prog.info? 124) 6 = true := by kernel_rfl
theorem info_Hole : infoOk (Tryz.prog.info? 46) 4 = true := by kernel_rfl
theorem info_Unit : infoOk (Tryz.prog.info? 35) 18 = true := by kernel_rfl
section
variable {X : TypeId -> Bool} {b0 lo base : Nat} {w w' w2 : World} {v v' : Value} {d : Dt} {e : TypeId} {sz : Nat} {l : List (List Dt)} {A : Option Addr}
theorem SD.keep {b : Nat} (h : SD b0 lo w b) (e : w'.heap[b]? = w.heap[b]?) : SD b0 lo w' b := by
 rcases h with h | ⟨h0, cs, t, fr, h1, h2⟩
 ·exact .inl h
 exact .inr ⟨h0, cs, t, fr, e.trans h1, h2⟩
theorem SD.up {b0' lo' b : Nat} (h : SD b0 lo w b) (hb : b0 <= b0') (hl : lo' <= lo) : SD b0' lo' w b := by
 rcases h with h | ⟨h0, h1⟩
 ·exact .inl (by omega)
 exact .inr ⟨by omega, h1⟩
theorem SD.tf {b : Nat} (h : SD b0 lo w b) (hX : XD X) (hb : b0 <= base) (hl : b < w.heap.size) (hf : TF X base w w') : w'.heap[b]? = w.heap[b]? := by
 refine hf.block b hl ?_
 rcases h with h | ⟨_, cs, t, fr, h1, h2⟩
 ·exact .inl (by omega)
 exact .inr ⟨cs, t, fr, h1, hX t h2⟩
theorem DtN.up {b0' lo' : Nat} (h : DtN b0 lo w v d) (hb : b0 <= b0') (hl : lo' <= lo) : DtN b0' lo' w v d := DtV.to h fun _ h _ => h.up hb hl
theorem RowsN.up {b0' lo' : Nat} (h : RowsN b0 lo w sz A l) (hb : b0 <= b0') (hl : lo' <= lo) : RowsN b0' lo' w sz A l := RowsV.to h fun _ h _ => h.up hb hl
theorem DtN.tf (h : DtN b0 lo w v d) (hf : TF X base w w') (hX : XD X) (hb : b0 <= base) : DtN b0 lo w' v d :=
 DtV.keep hf.size (fun _ hS hl => ⟨hS.keep (hS.tf hX hb hl hf), hS.tf hX hb hl hf⟩) d v h
theorem RowsN.tf (h : RowsN b0 lo w sz A l) (hf : TF X base w w') (hX : XD X) (hb : b0 <= base) : RowsN b0 lo w' sz A l :=
 RowsV.keep hf.size (fun _ hS hl => ⟨hS.keep (hS.tf hX hb hl hf), hS.tf hX hb hl hf⟩) l sz A 0 h
theorem DtN.below (h : DtN b0 lo w v d) (hf : Below w.heap.size w w') : DtN b0 lo w' v d :=
 DtV.keep hf.size (fun b hS hl => ⟨hS.keep (hf.block b hl), hf.block b hl⟩) d v h
theorem RowsN.below (h : RowsN b0 lo w sz A l) (hf : Below w.heap.size w w') : RowsN b0 lo w' sz A l :=
 RowsV.keep hf.size (fun b hS hl => ⟨hS.keep (hf.block b hl), hf.block b hl⟩) l sz A 0 h
theorem OwnN.nil : OwnN b0 lo w base e sz (.slice none 0 0) [] := OwnD.nil
theorem OwnN.stay (h : OwnN b0 lo w base e sz v l) (hs : w.heap.size <= w'.heap.size) (ho : ∀ g cur, v.ownBlock = some g -> w.heap[g]? = some (.cells cur e (0, 0)) -> w'.heap[g]? = w.heap[g]?)
  (hS : ∀ b, SD b0 lo w b -> b < w.heap.size -> w'.heap[b]? = w.heap[b]?) : OwnN b0 lo w' base e sz v l := by
 obtain ⟨xs, h1, h2, h3⟩ := h
 refine ⟨xs, ⟨h1.1, ?_⟩, CellsV.keep hs (fun b hb hl => ⟨⟨hb.1.keep (hS b hb.1 hl), hb.2⟩, hS b hb.1 hl⟩) _ _ h2, h3⟩
 rcases h1.2 with h0 | ⟨g, cap, cur, rfl, hb, hg, h4⟩
 ·exact .inl h0
 exact .inr ⟨g, cap, cur, rfl, hb, (ho g cur rfl hg).trans hg, h4⟩
theorem OwnN.tf {b1 : Nat} (h : OwnN b0 lo w base e sz v l) (hf : TF X b1 w w') (hX : XD X) (hb : b0 <= b1) (he : X e = false) : OwnN b0 lo w' base e sz v l :=
 h.stay hf.size (fun g cur hg hc => hf.block g (OwnD.lt h g hg).2 (.inr ⟨_, _, _, hc, he⟩)) fun b hS hl => hS.tf hX hb hl hf
theorem OwnN.below (h : OwnN b0 lo w base e sz v l) (hf : Below w.heap.size w w') : OwnN b0 lo w' base e sz v l :=
 h.stay hf.size (fun g cur hg hc => hf.block g (OwnD.lt h g hg).2) fun b hS hl => hf.block b hl
theorem OwnN.lt (h : OwnN b0 lo w base e sz v l) (g : Nat) (hg : v.ownBlock = some g) : base <= g /\ g < w.heap.size := OwnD.lt h g hg
theorem OwnN.shape (h : OwnN b0 lo w base e sz v l) {n : Nat} (hn : l.length = n) : ∃ A c, v = .slice A n c := OwnD.shape h hn
theorem OwnN.up {b0' lo' : Nat} (h : OwnN b0 lo w base e sz v l) (hb : b0 <= b0') (hl : lo' <= lo) : OwnN b0' lo' w base e sz v l := OwnD.to h fun _ h _ => h.up hb hl
theorem OwnN.typed (h : OwnN b0 lo w base e sz v l) (g : Nat) (hg : v.ownBlock = some g) : ∃ cs, w.heap[g]? = some (.cells cs e (0, 0)) := by
 obtain ⟨xs, h1, _⟩ := h
 rcases h1.2 with ⟨rfl, _⟩ | ⟨g', cap, cur, rfl, hb, hg', h4⟩
 ·cases hg
 have : g' = g := by simpa [Value.ownBlock] using hg
 subst this
 exact ⟨cur, hg'⟩
theorem OwnN.mayT {n b1 : Nat} (h : OwnN b0 lo w base e sz v l) (hx : X e = true) (hb : b1 <= base) (g : Nat) (hg : v.ownBlock = some g) : MayT X b1 n w g := by
 obtain ⟨cs, hc⟩ := h.typed g hg
 exact .inr ⟨Nat.le_trans hb (h.lt g hg).1, _, _, _, hc, hx⟩
theorem OwnN.dt (h : OwnN b0 lo w base e sz v l) (he : dT e = true) (hl : lo <= base) : DtN b0 lo w v (.rows sz l) := by
 have ht := h.typed
 have hlt := h.lt
 obtain ⟨xs, h1, h2, h3⟩ := h
 have h2' : CellsV w (SD b0 lo w) xs l.flatten := h2.to fun b hb _ => hb.1
 unfold DtN DtV
 rcases h1.2 with ⟨rfl, h0⟩ | ⟨g, cap, cur, rfl, hb, hg, h4⟩
 ·obtain rfl := List.eq_nil_of_length_eq_zero h0;exact ⟨none, 0, rfl, by unfold RowsV; trivial⟩
 refine ⟨_, cap, rfl, RowsV.of_flat ⟨.inr ⟨Nat.le_trans hl hb, _, _, _, hg, he⟩, (World.ownsRow.lt h1 g rfl).2⟩ h3 h2' fun k u hu => ?_⟩
 rw [Nat.zero_mul, Nat.zero_add]
 exact World.ownsRow.cells h1 (g := g) rfl k u hu
theorem OwnN.rowsV (h : OwnN b0 lo w base e sz v l) : ∃ A c, v = .slice A l.length c /\ RowsV w (fun b => SD b0 lo w b ∨ v.ownBlock = some b) sz A 0 l := by
 obtain ⟨xs, h1, h2, h3⟩ := h
 rcases h1.2 with ⟨rfl, h0⟩ | ⟨g, cap, cur, rfl, hb, hg, h4⟩
 ·obtain rfl := List.eq_nil_of_length_eq_zero h0;exact ⟨none, 0, rfl, by unfold RowsV; trivial⟩
 refine ⟨_, cap, rfl, RowsV.of_flat ⟨.inr rfl, (World.ownsRow.lt h1 g rfl).2⟩ h3 (h2.to fun b hb _ => .inl hb.1) fun k u hu => ?_⟩
 rw [Nat.zero_mul, Nat.zero_add]
 exact World.ownsRow.cells h1 (g := g) rfl k u hu
theorem CellsV.fresh {lo' : Nat} {us : List Value} {r : List Dt} (h : CellsV w (SD b0 lo' w) us r) (hl : lo <= lo') (hg : ∀ g, v.ownBlock = some g -> b0 <= g /\ g < lo') : CellsV w (fun b => SD b0 lo w b /\ v.ownBlock ≠ some b) us r :=
 h.to fun b hb _ => ⟨hb.up (Nat.le_refl _) hl, fun e => by
  have := hg b e;rcases hb with hb | ⟨hb, _⟩ <;> omega⟩
theorem OwnN.snoc {r : List Dt} {us : List Value} (h : OwnN b0 lo w base e sz v l) (hr : CellsV w (fun b => SD b0 lo w b /\ v.ownBlock ≠ some b) us r) (hl : r.length = sz) (hg : w.grownBy w' v.ownBlock) (hv : v'.ownBlock = v.ownBlock ∨ v'.ownBlock = some w.heap.size)
  (ho : ∀ xs, w.ownsRow base e sz v l.length xs -> w'.ownsRow base e sz v' (l.length + 1) (xs ++ us)) : OwnN b0 lo w' base e sz v' (l ++ [r]) := by
 obtain ⟨xs, h1, h2, h3⟩ := h
 refine ⟨xs ++ us, ?_, ?_, ?_⟩
 ·rw [List.length_append]; exact ho xs h1
 ·rw [List.flatten_append, List.flatten_cons, List.flatten_nil, List.append_nil];refine CellsV.keep hg.size (fun b hb hlt => ?_) _ _ (CellsV.app hr h2);have e1 := hg.block b hlt (fun e => hb.2 e.symm);refine ⟨⟨hb.1.keep e1, ?_⟩, e1⟩;rcases hv with e | e
  ·rw [e]; exact hb.2
  rw [e]; intro h; injection h; omega
 intro q hq
 rcases List.mem_append.1 hq with h | h
 ·exact h3 q h
 simp only [List.mem_cons, List.not_mem_nil, or_false] at h
 rw [h]; exact hl
theorem wpl_pushN {ops : Array Oper} {rest : List Oper} {o : Oper} {a : Act} {Q : Exit -> Act -> World -> Prop} {W : World} (hgd : o.guard = none) (s x : Operand) {t : TypeId}
  (ho : o.op = .call { callee := .builtin .append, args := #[s, x], argTypes := #[t, t] })
  {i0 : TypeInfo} {z : Value} {bytes : Nat} (ht : Tryz.prog.underlying t = some (.slice e)) (hi : Tryz.prog.info? e = some i0) (hz : i0.zero = some z) (hsize : i0.size = sz) (hby : i0.bytes = bytes) (hzs : z.cells.size = sz) (hsz : 0 < sz) (hby2 : bytes <= 1000)
  (H : OwnN b0 lo W base e sz v l) (hs : a.eval s = v) {us : List Value} {r : List Dt} (hr : CellsV W (fun b => SD b0 lo W b /\ v.ownBlock ≠ some b) us r) (hl : r.length = sz) (hx : a.eval x = .slice (some ⟨W.heap.size, 0, none⟩) 1 1)
  (hn : l.length <= 1099511627776 / 16) (hbase : base <= W.heap.size)
  (h : ∀ v' w', OwnN b0 lo w' base e sz v' (l ++ [r]) -> Below base W w' -> (v'.ownBlock = v.ownBlock ∨ ∃ g, v'.ownBlock = some g /\ W.heap.size < g) -> W.grownBy w' v.ownBlock -> wpList Tryz.prog ops Q rest (a.put o.dst v') w') : wpList Tryz.prog ops Q (o :: rest) a (W.alloc (.cells us.toArray e)) := by
 have hal : Below W.heap.size W (W.alloc (.cells us.toArray e)) := (Below.refl _ _).alloc (Nat.le_refl _) _
 have H2 := H.below hal
 obtain ⟨xs, h1, h2, h3⟩ := H2
 have hul : us.length = sz := by rw [hr.len, hl]
 have hr2 : CellsV (W.alloc (.cells us.toArray e)) (fun b => SD b0 lo (W.alloc (.cells us.toArray e)) b /\ v.ownBlock ≠ some b) us r :=
  CellsV.keep hal.size (fun b hb hlt => ⟨⟨hb.1.keep (hal.block b hlt), hb.2⟩, hal.block b hlt⟩) _ _ hr
 have hcell : ∀ j u, us[j]? = some u -> (W.alloc (.cells us.toArray e)).cell? ((⟨W.heap.size, 0, none⟩ : Addr).add j) = some u := fun j u hu => by
  rw [Addr.add_lit, Nat.zero_add, World.cell?_alloc_mark]
  simpa using hu
 refine wpList_append_any (P := Tryz.prog) _ hgd s x t ho base e i0 z sz bytes ht hi hz hsize hby hzs hsz v l.length xs hs h1 (W.heap.size + 1) (some ⟨W.heap.size, 0, none⟩) 1 1 us hx ⟨by rw [hul, Nat.one_mul], fun _ => ⟨_, rfl, Nat.lt_succ_self _, hcell⟩⟩ hr.one (by unfold maxLen; omega) ?_ (by simp; omega) ?_
 ·have : (l.length + 1) * bytes <= (l.length + 1) * 1000 := Nat.mul_le_mul_left _ hby2;omega
 intro v' w' h4 h5 h6
 have h5' : W.grownBy w' v.ownBlock := by
  refine ⟨h5.os.trans hal.os, h5.tape.trans hal.tape, h5.output.trans hal.output, Nat.le_trans hal.size h5.size, fun k hk hne => (h5.block k (Nat.lt_of_lt_of_le hk hal.size) hne).trans (hal.block k hk)⟩
 refine h v' w' (OwnN.snoc (w := W.alloc (.cells us.toArray e)) ⟨xs, h1, h2, h3⟩ hr2 hl h5 h6 fun ys hy => ?_) ?_ ?_ h5'
 ·have : ys = xs := by
   rcases h1.2 with ⟨rfl, h0⟩ | ⟨g, cap, cur, rfl, _, hg, _, _, _, ht1⟩
   ·rcases hy.2 with ⟨_, _⟩ | ⟨g, cap, cur, e2, _⟩
    ·have e1 : ys = [] := List.eq_nil_of_length_eq_zero (by rw [hy.1, h0, Nat.zero_mul]);have e2 : xs = [] := List.eq_nil_of_length_eq_zero (by rw [h1.1, h0, Nat.zero_mul]);rw [e1, e2]
    cases e2
   rcases hy.2 with ⟨e2, _⟩ | ⟨g', cap', cur', e2, _, hg', _, _, _, ht2⟩
   ·cases e2
   have e3 : g' = g := by have := congrArg Value.ownBlock e2; simpa [Value.ownBlock] using this.symm
   rw [e3, hg] at hg';have e4 := (Obj.cells.inj (Option.some.inj hg')).1;rw [<- ht1, <- ht2, e4]
  rw [this]; exact h4
 ·exact (hal.mono hbase).trans ((Below.refl base _).grown h5 (Nat.le_trans hbase hal.size) fun k hk => (World.ownsRow.lt h1 k hk).1)
 rcases h6 with e | e
 ·exact .inl e
 exact .inr ⟨_, e, by simp⟩
theorem wpl_pushX {ops : Array Oper} {rest : List Oper} {o : Oper} {a : Act} {Q : Exit -> Act -> World -> Prop} {W : World} (hgd : o.guard = none) (s x : Operand) {t : TypeId}
  (ho : o.op = .call { callee := .builtin .append, args := #[s, x], argTypes := #[t, t] })
  (ht : Tryz.prog.underlying t = some (.slice e)) (hI : infoOk (Tryz.prog.info? e) sz = true)
  (H : OwnN b0 lo W base e sz v l) (hs : a.eval s = v) {us : List Value} {r : List Dt} (hr : CellsV W (fun b => SD b0 lo W b /\ v.ownBlock ≠ some b) us r) (hl : r.length = sz) (hx : a.eval x = .slice (some ⟨W.heap.size, 0, none⟩) 1 1)
  (hn : l.length <= 1099511627776 / 16) (hbase : base <= W.heap.size)
  (h : ∀ v' w', OwnN b0 lo w' base e sz v' (l ++ [r]) -> Below base W w' -> (v'.ownBlock = v.ownBlock ∨ ∃ g, v'.ownBlock = some g /\ W.heap.size < g) -> W.grownBy w' v.ownBlock -> wpList Tryz.prog ops Q rest (a.put o.dst v') w') : wpList Tryz.prog ops Q (o :: rest) a (W.alloc (.cells us.toArray e)) := by
 obtain ⟨i0, z, h1, h2, h3, h4, h5, h6⟩ := info_of hI
 exact wpl_pushN hgd s x ho ht h1 h2 h3 rfl h5 h6 h4 H hs hr hl hx hn hbase h
theorem CellsV.set_ {S : Nat -> Prop} {u : Value} {d : Dt} (hd : DtV w S u d) : ∀ {r : List Dt} {xs : List Value} {k : Nat}, CellsV w S xs r -> CellsV w S (xs.set k u) (r.set k d)
 | [], _, k, h => by
  have e : _ = [] := h;rw [e]; rfl
 | d0 :: r, _, 0, ⟨v0, ys, e, _, hr⟩ => by
  subst e;exact ⟨u, ys, rfl, hd, hr⟩
 | d0 :: r, _, k + 1, ⟨v0, ys, e, h0, hr⟩ => by
  subst e;exact ⟨v0, ys.set k u, rfl, h0, CellsV.set_ hd hr⟩
theorem flatten_set {α : Type} {sz j : Nat} {d : α} (hj : j < sz) : ∀ {l : List (List α)} {i : Nat} {r : List α}, (∀ q ∈ l, q.length = sz) -> l[i]? = some r -> (l.set i (r.set j d)).flatten = l.flatten.set (i * sz + j) d
 | [], i, r, _, h => by simp at h
 | q :: l, 0, r, hl, h => by
  obtain rfl : q = r := by simpa using h
  have := hl q (by simp);rw [List.set_cons_zero, List.flatten_cons, List.flatten_cons, Nat.zero_mul, Nat.zero_add, List.set_append_left _ _ (by omega)]
 | q :: l, i + 1, r, hl, h => by
  have h1 := hl q (by simp);rw [List.set_cons_succ, List.flatten_cons, List.flatten_cons, flatten_set hj (fun p hp => hl p (List.mem_cons_of_mem _ hp)) (by simpa using h), List.set_append_right _ _ (by rw [h1, Nat.add_mul]; omega), h1, show (i + 1) * sz + j - sz = i * sz + j by rw [Nat.add_mul]; omega]
theorem OwnN.set_ {g n cap : Nat} (h : OwnN b0 lo w base e sz (.slice (some ⟨g, 0, none⟩) n cap) l) {i j : Nat} {r : List Dt} (hi : l[i]? = some r) (hj : j < sz) {u : Value} {d : Dt} (hd : DtV w (fun b => SD b0 lo w b /\ some g ≠ some b) u d) :
  OwnN b0 lo (w.setCell ⟨g, i * sz + j, none⟩ u) base e sz (.slice (some ⟨g, 0, none⟩) n cap) (l.set i (r.set j d)) := by
 obtain ⟨xs, h1, h2, h3⟩ := h
 have hn : n = l.length := by
  rcases h1.2 with ⟨e, _⟩ | ⟨g', cap', cur, e, _⟩
  ·cases e
  cases e; rfl
 subst hn
 obtain ⟨s1, s2⟩ := World.ownsRow.stored h1 (i * sz + j) u
 refine ⟨xs.set (i * sz + j) u, by rw [List.length_set]; exact s1, ?_, ?_⟩
 ·rw [flatten_set hj h3 hi];refine CellsV.set_ (CellsV.keep (w := w) (S := fun b => SD b0 lo w b /\ some g ≠ some b) (S' := fun b => SD b0 lo (w.setCell ⟨g, i * sz + j, none⟩ u) b /\ some g ≠ some b) (by simp) ?_ [d] [u] ⟨u, [], rfl, hd, rfl⟩ |> fun h => by
   obtain ⟨v, ys, e, hv, _⟩ := h;cases e;exact hv) (CellsV.keep (w := w) (by simp) ?_ _ _ h2)
  ·intro b hb hlt;have e1 := s2.block b hlt (fun e => hb.2 e.symm);exact ⟨⟨hb.1.keep e1, hb.2⟩, e1⟩
  intro b hb hlt;have e1 := s2.block b hlt (fun e => hb.2 e.symm);exact ⟨⟨hb.1.keep e1, hb.2⟩, e1⟩
 intro q hq
 rcases List.mem_or_eq_of_mem_set hq with h | h
 ·exact h3 q h
 rw [h, List.length_set]
 exact h3 r (List.mem_of_getElem? hi)
end
def arOk (l : List UInt8) (a b : Int) : Prop := 1 <= a /\ b <= 8 /\ ((l == [108, 101, 110]) = true ∨ (l == [110, 111, 116]) = true ∨ (l == [117, 112, 112, 101, 114]) = true ∨ (l == [108, 111, 119, 101, 114]) = true ∨ (l == [112, 114, 105, 110, 116]) = true ∨ 2 <= a)
def PAr (s : ByteArray) (w : World) (e : Ending) (w' : World) : Prop := ∃ (a b : Int) (ok : Bool), e = .returned (.tuple #[.int .i64 a, .int .i64 b, .bool ok]) /\ (ok = true -> arOk s.toList a b) /\ w' = w
theorem arity_any (s : ByteArray) (w : World) : Calls Tryz.prog 65 #[.string s] w (PAr s w) := by
 go_enter Tryz.func65, Tryz.ntmps65
 go_wp2
 all_goals (
  go_ret3
  refine ⟨_, _, _, rfl, ?_, rfl⟩
  first
   | (intro h; cases h; done)
   | exact fun _ => ⟨by decide, by decide, .inr (.inr (.inr (.inr (.inr (by decide)))))⟩
   | exact fun _ => ⟨by decide, by decide, by simp [*]⟩)
theorem constant_any (s : ByteArray) (w : World) : Calls Tryz.prog 113 #[.string s] w (PB w) := by
 go_enter Tryz.func113, Tryz.ntmps113
 go_wp2
 all_goals (
  go_ret;exact ⟨_, rfl, rfl⟩)
theorem strRows_snoc (l : List ByteArray) (x : ByteArray) : strRows l ++ [[.str x]] = strRows (l ++ [x]) := by simp [strRows]
theorem strRows_len (l : List ByteArray) : (strRows l).length = l.length := by simp [strRows]
theorem allSnoc {α : Type} {P : α -> Prop} {l : List α} {x : α} (h : ∀ y ∈ l, P y) (hx : P x) : ∀ y ∈ l ++ [x], P y := fun y hy => by
 rcases List.mem_append.1 hy with h1 | h1
 ·exact h y h1
 rw [List.mem_singleton.1 h1]; exact hx
theorem info_dt_str : dT 9 = true := rfl
def PPath (n : Nat) (w : World) (e : Ending) (w' : World) : Prop := ∃ (v : Value) (l : List ByteArray) (er : Int), e = .returned (.tuple #[v, .int .i64 er]) /\ DtN 0 w.heap.size w' v (.rows 1 (strRows l)) /\ (l.length <= n /\ ∀ x ∈ l, x.size <= n) /\ Below w.heap.size w w'
theorem path_any (s : ByteArray) (w : World) (hs : s.size <= 4294967296) : Calls Tryz.prog 133 #[.string s] w (PPath (s.size + 1) w) := by
 go_enter Tryz.func133, Tryz.ntmps133
 go_wp2_with fail
 go_loopw [4, 5, 6] (fun v x i wr => ∃ (k : Nat) (now : ByteArray) (l : List ByteArray), k <= s.size /\ i = .int .i64 (k : Int) /\ x = .string now /\ now.size <= k /\ (l.length <= k /\ ∀ x ∈ l, x.size <= k) /\ OwnN 0 w.heap.size wr w.heap.size 9 1 v (strRows l) /\ Below w.heap.size w wr) (fun _ _ i _ => s.size - (intOf i).toNat)
 case atStart => exact ⟨0, _, [], Nat.zero_le _, rfl, rfl, Nat.le_refl _, ⟨Nat.le_refl _, fun _ h => by cases h⟩, OwnN.nil, Below.refl _ _⟩
 obtain ⟨k, now, l, hk, rfl, rfl, hz, ⟨hl, hla⟩, hO, hb⟩ := hrel
 have HO := hid hO
 clear hO
 have hbs := hb.size
 obtain ⟨A, c, hv⟩ := OwnN.shape HO.out (n := l.length) (strRows_len l)
 have hsl := strRows_len l
 by_cases hlt : k < s.size
 ·have hli : (k : Int) < s.size := by omega
  obtain ⟨n1, hn1, hn0, hn255⟩ := u8b s k hlt;go_wp2_with (at_builtin; refine wpl_pushX rfl _ _ rfl Tryz.underlying23 info_string HO.out rfl (us := [.string now]) (r := [.str now]) ⟨_, _, rfl, DtV.str, rfl⟩ rfl rfl (by omega) (by omega) ?_; intro v1 w1 hO1 hb1 _ _; rw [strRows_snoc] at hO1; have HO1 := hid hO1; clear hO1)
  all_goals first
   | (go_roundw
      case rel => exact ⟨k + 1, _, _, by omega, by go_num, rfl, Nat.zero_le _, ⟨by rw [List.length_append, List.length_singleton]; omega, allSnoc (fun x h => Nat.le_succ_of_le (hla x h)) (Nat.le_succ_of_le hz)⟩, HO1.out, hb.trans hb1⟩
      case measure => simp [intOf]; omega
      done)
   | (go_roundw
      case rel => exact ⟨k + 1, _, l, by omega, by go_num, rfl, Nat.zero_le _, ⟨by omega, fun x h => Nat.le_succ_of_le (hla x h)⟩, HO.out, hb⟩
      case measure => simp [intOf]; omega
      done)
   | (go_roundw
      case rel => exact ⟨k + 1, _, l, by omega, by go_num, rfl, by rw [ByteArray.size_append, ByteArray.size_extract]; omega, ⟨by omega, fun x h => Nat.le_succ_of_le (hla x h)⟩, HO.out, hb⟩
      case measure => simp [intOf]; omega
      done)
 obtain rfl : k = s.size := by omega
 obtain ⟨q, hq⟩ := xE (!now.toList.isEmpty)
 cases q
 ·go_wp2_with fail
  all_goals (
   go_ret2
   first
    | exact ⟨_, [], _, rfl, DtV.none_, ⟨Nat.zero_le _, fun _ h => by cases h⟩, hb⟩
    | exact ⟨_, _, _, rfl, OwnN.dt HO.out rfl (Nat.le_refl _), ⟨by omega, fun x h => Nat.le_succ_of_le (hla x h)⟩, hb⟩)
 go_wp2_with (at_builtin; refine wpl_pushX rfl _ _ rfl Tryz.underlying23 info_string HO.out rfl (us := [.string now]) (r := [.str now]) ⟨_, _, rfl, DtV.str, rfl⟩ rfl rfl (by omega) (by omega) ?_; intro v1 w1 hO1 hb1 _ _; rw [strRows_snoc] at hO1; have HO1 := hid hO1; obtain ⟨A1, c1, hv1⟩ := OwnN.shape hO1 (n := l.length + 1) (by rw [strRows_len, List.length_append, List.length_singleton]); clear hO1)
 all_goals (
  go_ret2
  first
   | exact ⟨_, [], _, rfl, DtV.none_, ⟨Nat.zero_le _, fun _ h => by cases h⟩, hb.trans hb1⟩
   | (have HD := OwnN.dt HO1.out info_dt_str (Nat.le_refl _)
      rw [hv1] at HD;exact ⟨_, l ++ [now], _, rfl, HD, ⟨by rw [List.length_append, List.length_singleton]; omega, allSnoc (fun x h => Nat.le_succ_of_le (hla x h)) (Nat.le_succ_of_le hz)⟩, hb.trans hb1⟩))
section
variable {P : Program} {fn : Func} {p u v x y : Tmp} {ty : TypeId}
theorem results_c1 (h : fn.results = #[.cell p ty, .tmp u]) (tmps : Array Value) (w : World) (g : Nat) (t : TypeId) (cs : Array Value) (fr : Nat × Nat) (d : TypeDesc)
  (hp : tmps.getD p undef = .pointer (some ⟨g, 0, none⟩)) (hg : w.heap[g]? = some (.cells cs t fr))
  (hu : P.underlying ty = some d) (hd : (match d with | .struct _ | .array _ _ => true | _ => false) = true) (hi : (P.info? ty).map (·.size) = some cs.size) :
  (results fn tmps).run P w = .ok (.tuple #[.agg cs, tmps.getD u undef]) w := by
 have hp' : tmps[p]?.getD undef = .pointer (some ⟨g, 0, none⟩) := by simpa using hp
 simp [results, h, hp', asAddr, run_loadVar_row w g t ty cs fr d hg hu hd hi, Result.andThen]
theorem results_c2 (h : fn.results = #[.cell p ty, .tmp u, .tmp v]) (tmps : Array Value) (w : World) (g : Nat) (t : TypeId) (cs : Array Value) (fr : Nat × Nat) (d : TypeDesc)
  (hp : tmps.getD p undef = .pointer (some ⟨g, 0, none⟩)) (hg : w.heap[g]? = some (.cells cs t fr))
  (hu : P.underlying ty = some d) (hd : (match d with | .struct _ | .array _ _ => true | _ => false) = true) (hi : (P.info? ty).map (·.size) = some cs.size) :
  (results fn tmps).run P w = .ok (.tuple #[.agg cs, tmps.getD u undef, tmps.getD v undef]) w := by
 have hp' : tmps[p]?.getD undef = .pointer (some ⟨g, 0, none⟩) := by simpa using hp
 simp [results, h, hp', asAddr, run_loadVar_row w g t ty cs fr d hg hu hd hi, Result.andThen]
theorem results_c3 (h : fn.results = #[.cell p ty, .tmp u, .tmp v, .tmp x]) (tmps : Array Value) (w : World) (g : Nat) (t : TypeId) (cs : Array Value) (fr : Nat × Nat) (d : TypeDesc)
  (hp : tmps.getD p undef = .pointer (some ⟨g, 0, none⟩)) (hg : w.heap[g]? = some (.cells cs t fr))
  (hu : P.underlying ty = some d) (hd : (match d with | .struct _ | .array _ _ => true | _ => false) = true) (hi : (P.info? ty).map (·.size) = some cs.size) :
  (results fn tmps).run P w = .ok (.tuple #[.agg cs, tmps.getD u undef, tmps.getD v undef, tmps.getD x undef]) w := by
 have hp' : tmps[p]?.getD undef = .pointer (some ⟨g, 0, none⟩) := by simpa using hp
 simp [results, h, hp', asAddr, run_loadVar_row w g t ty cs fr d hg hu hd hi, Result.andThen]
theorem results_tct (h : fn.results = #[.tmp u, .cell p ty, .tmp v]) (tmps : Array Value) (w : World) (g : Nat) (t : TypeId) (cs : Array Value) (fr : Nat × Nat) (d : TypeDesc)
  (hp : tmps.getD p undef = .pointer (some ⟨g, 0, none⟩)) (hg : w.heap[g]? = some (.cells cs t fr))
  (hu : P.underlying ty = some d) (hd : (match d with | .struct _ | .array _ _ => true | _ => false) = true) (hi : (P.info? ty).map (·.size) = some cs.size) :
  (results fn tmps).run P w = .ok (.tuple #[tmps.getD u undef, .agg cs, tmps.getD v undef]) w := by
 have hp' : tmps[p]?.getD undef = .pointer (some ⟨g, 0, none⟩) := by simpa using hp
 simp [results, h, hp', asAddr, run_loadVar_row w g t ty cs fr d hg hu hd hi, Result.andThen]
end
def isR : Option TypeDesc -> Bool
 | some (.struct _) => true
 | some (.array _ _) => true
 | _ => false
theorem isR_spec {o : Option TypeDesc} (h : isR o = true) : ∃ d, o = some d /\ (match d with | .struct _ | .array _ _ => true | _ => false) = true := by
 unfold isR at h
 split at h
 ·exact ⟨_, rfl, rfl⟩
 ·exact ⟨_, rfl, rfl⟩
 cases h
section
variable {P : Program} {fn : Func} {p u v x : Tmp} {ty : TypeId}
theorem rc1I {R : Ending -> World -> Prop} {a : Act} {w : World} {t : TypeId} {cs : Array Value} {fr : Nat × Nat} (g : Nat) (hg : w.heap[g]? = some (.cells cs t fr)) (hi : (P.info? ty).map (·.size) = some cs.size) (k : R (.returned (.tuple #[.agg cs, a.tmps.getD u undef])) w) (h : fn.results = #[.cell p ty, .tmp u] := by exact rfl) (hp : a.tmps.getD p undef = .pointer (some ⟨g, 0, none⟩) := by exact rfl) (hu : isR (P.underlying ty) = true := by kernel_rfl) (hf : a.defers = [] := by exact rfl) : bodyPost P fn R .ret a w := by
 obtain ⟨d, hd, he⟩ := isR_spec hu
 exact bodyPost_ret (results_c1 h _ _ g _ cs fr d hp hg hd (by cases d <;> first | rfl | cases he) hi) hf k
theorem rc1 {R : Ending -> World -> Prop} {a : Act} {w : World} {t : TypeId} {cs : Array Value} {fr : Nat × Nat} (g : Nat) (hg : w.heap[g]? = some (.cells cs t fr)) (k : R (.returned (.tuple #[.agg cs, a.tmps.getD u undef])) w) (h : fn.results = #[.cell p ty, .tmp u] := by exact rfl) (hp : a.tmps.getD p undef = .pointer (some ⟨g, 0, none⟩) := by exact rfl) (hu : isR (P.underlying ty) = true := by kernel_rfl) (hf : a.defers = [] := by exact rfl) (hi : (P.info? ty).map (·.size) = some cs.size := by kernel_rfl) : bodyPost P fn R .ret a w := rc1I g hg hi k h hp hu hf
theorem rc2I {R : Ending -> World -> Prop} {a : Act} {w : World} {t : TypeId} {cs : Array Value} {fr : Nat × Nat} (g : Nat) (hg : w.heap[g]? = some (.cells cs t fr)) (hi : (P.info? ty).map (·.size) = some cs.size) (k : R (.returned (.tuple #[.agg cs, a.tmps.getD u undef, a.tmps.getD v undef])) w) (h : fn.results = #[.cell p ty, .tmp u, .tmp v] := by exact rfl) (hp : a.tmps.getD p undef = .pointer (some ⟨g, 0, none⟩) := by exact rfl) (hu : isR (P.underlying ty) = true := by kernel_rfl) (hf : a.defers = [] := by exact rfl) : bodyPost P fn R .ret a w := by
 obtain ⟨d, hd, he⟩ := isR_spec hu
 exact bodyPost_ret (results_c2 h _ _ g _ cs fr d hp hg hd (by cases d <;> first | rfl | cases he) hi) hf k
theorem rc2 {R : Ending -> World -> Prop} {a : Act} {w : World} {t : TypeId} {cs : Array Value} {fr : Nat × Nat} (g : Nat) (hg : w.heap[g]? = some (.cells cs t fr)) (k : R (.returned (.tuple #[.agg cs, a.tmps.getD u undef, a.tmps.getD v undef])) w) (h : fn.results = #[.cell p ty, .tmp u, .tmp v] := by exact rfl) (hp : a.tmps.getD p undef = .pointer (some ⟨g, 0, none⟩) := by exact rfl) (hu : isR (P.underlying ty) = true := by kernel_rfl) (hf : a.defers = [] := by exact rfl) (hi : (P.info? ty).map (·.size) = some cs.size := by kernel_rfl) : bodyPost P fn R .ret a w := rc2I g hg hi k h hp hu hf
theorem rc3I {R : Ending -> World -> Prop} {a : Act} {w : World} {t : TypeId} {cs : Array Value} {fr : Nat × Nat} (g : Nat) (hg : w.heap[g]? = some (.cells cs t fr)) (hi : (P.info? ty).map (·.size) = some cs.size) (k : R (.returned (.tuple #[.agg cs, a.tmps.getD u undef, a.tmps.getD v undef, a.tmps.getD x undef])) w) (h : fn.results = #[.cell p ty, .tmp u, .tmp v, .tmp x] := by exact rfl) (hp : a.tmps.getD p undef = .pointer (some ⟨g, 0, none⟩) := by exact rfl) (hu : isR (P.underlying ty) = true := by kernel_rfl) (hf : a.defers = [] := by exact rfl) : bodyPost P fn R .ret a w := by
 obtain ⟨d, hd, he⟩ := isR_spec hu
 exact bodyPost_ret (results_c3 h _ _ g _ cs fr d hp hg hd (by cases d <;> first | rfl | cases he) hi) hf k
theorem rc3 {R : Ending -> World -> Prop} {a : Act} {w : World} {t : TypeId} {cs : Array Value} {fr : Nat × Nat} (g : Nat) (hg : w.heap[g]? = some (.cells cs t fr)) (k : R (.returned (.tuple #[.agg cs, a.tmps.getD u undef, a.tmps.getD v undef, a.tmps.getD x undef])) w) (h : fn.results = #[.cell p ty, .tmp u, .tmp v, .tmp x] := by exact rfl) (hp : a.tmps.getD p undef = .pointer (some ⟨g, 0, none⟩) := by exact rfl) (hu : isR (P.underlying ty) = true := by kernel_rfl) (hf : a.defers = [] := by exact rfl) (hi : (P.info? ty).map (·.size) = some cs.size := by kernel_rfl) : bodyPost P fn R .ret a w := rc3I g hg hi k h hp hu hf
theorem rctI {R : Ending -> World -> Prop} {a : Act} {w : World} {t : TypeId} {cs : Array Value} {fr : Nat × Nat} (g : Nat) (hg : w.heap[g]? = some (.cells cs t fr)) (hi : (P.info? ty).map (·.size) = some cs.size) (k : R (.returned (.tuple #[a.tmps.getD u undef, .agg cs, a.tmps.getD v undef])) w) (h : fn.results = #[.tmp u, .cell p ty, .tmp v] := by exact rfl) (hp : a.tmps.getD p undef = .pointer (some ⟨g, 0, none⟩) := by exact rfl) (hu : isR (P.underlying ty) = true := by kernel_rfl) (hf : a.defers = [] := by exact rfl) : bodyPost P fn R .ret a w := by
 obtain ⟨d, hd, he⟩ := isR_spec hu
 exact bodyPost_ret (results_tct h _ _ g _ cs fr d hp hg hd (by cases d <;> first | rfl | cases he) hi) hf k
theorem rct {R : Ending -> World -> Prop} {a : Act} {w : World} {t : TypeId} {cs : Array Value} {fr : Nat × Nat} (g : Nat) (hg : w.heap[g]? = some (.cells cs t fr)) (k : R (.returned (.tuple #[a.tmps.getD u undef, .agg cs, a.tmps.getD v undef])) w) (h : fn.results = #[.tmp u, .cell p ty, .tmp v] := by exact rfl) (hp : a.tmps.getD p undef = .pointer (some ⟨g, 0, none⟩) := by exact rfl) (hu : isR (P.underlying ty) = true := by kernel_rfl) (hf : a.defers = [] := by exact rfl) (hi : (P.info? ty).map (·.size) = some cs.size := by kernel_rfl) : bodyPost P fn R .ret a w := rctI g hg hi k h hp hu hf
end
end Go.Proofs.YtkcnmjdomipbjaaGreat
