import Derived.Laws.OwnMore
import Derived.Deep.AppendLies
import Derived.Deep.Draws
import Derived.Maps.AppendAt
import Derived.RegionTactic
import Derived.OwnWalk
import Derived.Test.YtkcnmjdomipbjaaGreatRows
import Derived.Test.YtkcnmjdomipbjaaGreatS2
set_option linter.unusedVariables false
set_option maxHeartbeats 100000000
set_option maxRecDepth 100000
namespace Go.Proofs.YtkcnmjdomipbjaaGreat
open Go.RowKit
theorem block_of_add (a : Addr) (n : Nat) : (a.add n).block = a.block := by unfold Addr.add; split <;> rfl
theorem add_of_add (a : Addr) (i j : Nat) : (a.add i).add j = a.add (i + j) := by
 unfold Addr.add
 by_cases hi : i = 0 <;> by_cases hj : j = 0 <;> simp [hi, hj, Nat.add_assoc]
def Reads (w : World) (B size : Nat) (A : Option Addr) (n : Nat) (xs : List Value) : Prop :=
 xs.length = n * size /\ (0 < n -> ∃ ad, A = some ad /\ ad.block < B /\ ∀ j u, xs[j]? = some u -> w.cell? (ad.add j) = some u)
section
variable {w w' : World} {B B' size n : Nat} {A : Option Addr} {xs : List Value}
theorem Reads.none_ : Reads w B size A 0 [] := ⟨by simp, fun h => absurd h (by omega)⟩
theorem Reads.at_ {k : Nat} (h : Reads w B 1 A n xs) (hk : k < n) : ∃ ad u, A = some ad /\ ad.block < B /\ xs[k]? = some u /\ w.cell? (ad.add k) = some u := by
 obtain ⟨ad, e, hb, hc⟩ := h.2 (by omega)
 have hl : k < xs.length := by have := h.1; omega
 exact ⟨ad, xs[k], e, hb, List.getElem?_eq_getElem hl, hc k _ (List.getElem?_eq_getElem hl)⟩
theorem Reads.keep (h : Reads w B size A n xs) (hk : ∀ p : Addr, p.block < B -> w'.cell? p = w.cell? p) : Reads w' B size A n xs :=
 ⟨h.1, fun hn => by
  obtain ⟨ad, e, hb, hc⟩ := h.2 hn;exact ⟨ad, e, hb, fun j u hu => (hk _ (by rw [block_of_add]; exact hb)).trans (hc j u hu)⟩⟩
theorem Reads.more (h : Reads w B size A n xs) (hB : B <= B') : Reads w B' size A n xs :=
 ⟨h.1, fun hn => by
  obtain ⟨ad, e, hb, hc⟩ := h.2 hn;exact ⟨ad, e, by omega, hc⟩⟩
theorem Reads.below (h : Reads w B size A n xs) (hb : Below B w w') : Reads w' B size A n xs := h.keep fun _ hp => hb.cell hp
theorem Reads.drew (h : Reads w B size A n xs) : Reads w.drew B size A n xs := h
theorem Reads.drewN (h : Reads w B size A n xs) (k : Nat) : Reads (w.drewN k) B size A n xs := h
theorem Reads.alloc (h : Reads w B size A n xs) (hB : B <= w.heap.size) (o : Obj) : Reads (w.alloc o) B size A n xs := h.keep fun p hp => World.cell?_alloc_lt w o p (by omega)
theorem Reads.setCell (h : Reads w B size A n xs) {p : Addr} (hB : B <= p.block) (u : Value) : Reads (w.setCell p u) B size A n xs :=
 h.keep fun q hq => World.cell?_setCell_other w p q u (fun e => by subst e; omega)
theorem Reads.grown (h : Reads w B size A n xs) {row : Option Nat} (hg : w.grownBy w' row) (hB : B <= w.heap.size) (hr : ∀ g, row = some g -> B <= g) : Reads w' B size A n xs :=
 h.keep fun p hp => World.cell?_of_block (hg.block p.block (by omega) (fun e => by have := hr _ e.symm; omega))
theorem Reads.cut (h : Reads w B size A n xs) {k cap : Nat} (hk : k <= n) (hc : n <= cap) :
  Reads w B size (if cap = k then A else A.map (·.add (k * size))) (n - k) (xs.drop (k * size)) := by
 refine ⟨by rw [List.length_drop, h.1, Nat.sub_mul], fun hn => ?_⟩
 obtain ⟨ad, rfl, hb, hcell⟩ := h.2 (by omega)
 rw [if_neg (by omega)]
 refine ⟨ad.add (k * size), rfl, by rw [block_of_add]; exact hb, fun j u hu => ?_⟩
 rw [add_of_add]
 exact hcell _ u (by rw [<- hu, List.getElem?_drop])
end
def Blk (w : World) (g : Nat) (t : TypeId) (cs : Array Value) : Prop := w.heap[g]? = some (.cells cs t (0, 0))
section
variable {w w' : World} {g : Nat} {t : TypeId} {cs : Array Value}
theorem Blk.lt (h : Blk w g t cs) : g < w.heap.size := by
 rcases Nat.lt_or_ge g w.heap.size with hlt | hge
 ·exact hlt
 unfold Blk at h; rw [Array.getElem?_eq_none hge] at h; cases h
theorem Blk.cell (h : Blk w g t cs) (i : Nat) : w.cell? ⟨g, i, none⟩ = cs[i]? := cell_of_row w g i cs t (0, 0) h
theorem Blk.frozen (h : Blk w g t cs) (i : Nat) : w.frozen? ⟨g, i, none⟩ = false := by
 unfold Blk at h
 simp [World.frozen?, h]
theorem Blk.new (w : World) (t : TypeId) (cs : Array Value) : Blk (w.alloc (.cells cs t)) w.heap.size t cs := heap_alloc_new w _
theorem Blk.drew (h : Blk w g t cs) : Blk w.drew g t cs := h
theorem Blk.drewN (h : Blk w g t cs) (n : Nat) : Blk (w.drewN n) g t cs := h
theorem Blk.alloc (h : Blk w g t cs) (o : Obj) : Blk (w.alloc o) g t cs := (Below.heap_alloc w o g h.lt).trans h
theorem Blk.set_ (h : Blk w g t cs) (i : Nat) (u : Value) : Blk (w.setCell ⟨g, i, none⟩ u) g t (cs.setIfInBounds i u) := by
 unfold Blk at h ⊢
 simp [World.setCell, Array.getElem?_modify, h]
theorem Blk.far (h : Blk w g t cs) {p : Addr} (hp : g ≠ p.block) (u : Value) : Blk (w.setCell p u) g t cs := (Below.heap_setCell w p u g hp).trans h
theorem Blk.below {B : Nat} (h : Blk w g t cs) (hb : Below B w w') (hg : g < B) : Blk w' g t cs := (hb.block g hg).trans h
theorem Blk.grown {row : Option Nat} (h : Blk w g t cs) (hb : w.grownBy w' row) (hg : some g ≠ row) : Blk w' g t cs := (hb.block g h.lt hg).trans h
theorem Blk.ne_ {g' : Nat} {t' : TypeId} {cs' : Array Value} (h : Blk w g t cs) (h' : Blk w g' t' cs') (hne : t ≠ t') : g ≠ g' := by
 rintro rfl
 unfold Blk at h h'
 rw [h] at h'
 injection h' with h'
 injection h' with _ ht
 exact hne ht
end
section
variable {P : Program} (w : World)
theorem run_append_of_nil (base : Nat) (t ty e : TypeId) (i : TypeInfo) (size : Nat) (ht : P.underlying t = some (.slice e)) (hi : P.info? e = some i)
  (v : Value) (n : Nat) (xs : List Value) (hown : w.ownsRow base e size v n xs) (c : Nat) : (Builtin.append_ #[t, t] ty #[v, .slice none 0 c]).run P w = .ok v w := by
 rcases hown.2 with ⟨rfl, rfl⟩ | ⟨g, cap, cur, rfl, _, _, hnc, _⟩
 ·simp [Builtin.append_, run_underlying ht, sizeOf, typeInfo, hi, Builtin.lenOf, Builtin.firstCells]
 simp [Builtin.append_, run_underlying ht, sizeOf, typeInfo, hi, Builtin.lenOf, Builtin.firstCells, hnc, storeCells]
theorem run_append_any (base : Nat) (t ty e : TypeId) (i : TypeInfo) (z : Value) (size bytes : Nat) (ht : P.underlying t = some (.slice e)) (hi : P.info? e = some i) (hz : i.zero = some z)
  (hsize : i.size = size) (hby : i.bytes = bytes) (hzs : z.cells.size = size) (hsz : 0 < size)
  (v : Value) (n : Nat) (xs : List Value) (hown : w.ownsRow base e size v n xs)
  (B : Nat) (A : Option Addr) (m c : Nat) (news : List Value) (hr : Reads w B size A m news) (h1 : ∀ u ∈ news, u.oneCell' = true)
  (h63 : n + m <= maxLen) (hbytes : (n + m) * bytes <= 140737488355328) (hbase : base <= w.heap.size) :
  ∃ v' w', (Builtin.append_ #[t, t] ty #[v, .slice A m c]).run P w = .ok v' w' /\ w'.ownsRow base e size v' (n + m) (xs ++ news) /\ w.grownBy w' v.ownBlock /\
   (v'.ownBlock = v.ownBlock ∨ v'.ownBlock = some w.heap.size) := by
 rcases A with _ | ad
 ·have hm : m = 0 := by
   rcases Nat.eq_zero_or_pos m with h0 | h0
   ·exact h0
   obtain ⟨ad, h, _⟩ := hr.2 h0;cases h
  subst hm;have hn : news = [] := List.eq_nil_of_length_eq_zero (by simpa using hr.1);subst hn;exact ⟨v, w, run_append_of_nil w base t ty e i size ht hi v n xs hown c, by simpa using hown, World.grownBy.refl w _, .inl rfl⟩
 have hcells : ∀ j u, news[j]? = some u -> w.cell? (ad.add j) = some u := by
  intro j u hu;rcases Nat.eq_zero_or_pos m with h0 | h0
  ·subst h0;have hn : news = [] := List.eq_nil_of_length_eq_zero (by simpa using hr.1);subst hn;simp at hu
  obtain ⟨ad', h, _, hc⟩ := hr.2 h0;injection h with h
  subst h;exact hc j u hu
 obtain ⟨v', w', hrun, h2, h3, _, h5⟩ := run_append_own_at (P := P) w base t ty e i z size bytes ht hi hz hsize hby hzs hsz v n xs hown ad m c news hr.1 hcells h1 h63 hbytes hbase
 exact ⟨v', w', hrun, h2, h3, h5⟩
theorem wp_append_any {o : Oper} {a : Act} {K : Act -> World -> Prop} {Q : Exit -> Act -> World -> Prop} (s x : Operand) (t : TypeId)
  (ho : o.op = .call { callee := .builtin .append, args := #[s, x], argTypes := #[t, t] })
  (base : Nat) (e : TypeId) (i : TypeInfo) (z : Value) (size bytes : Nat) (ht : P.underlying t = some (.slice e)) (hi : P.info? e = some i) (hz : i.zero = some z)
  (hsize : i.size = size) (hby : i.bytes = bytes) (hzs : z.cells.size = size) (hsz : 0 < size)
  (v : Value) (n : Nat) (xs : List Value) (hs : a.eval s = v) (hown : w.ownsRow base e size v n xs)
  (B : Nat) (A : Option Addr) (m c : Nat) (news : List Value) (hx : a.eval x = .slice A m c) (hr : Reads w B size A m news) (h1 : ∀ u ∈ news, u.oneCell' = true)
  (h63 : n + m <= maxLen) (hbytes : (n + m) * bytes <= 140737488355328) (hbase : base <= w.heap.size)
  (h : ∀ v' w', w'.ownsRow base e size v' (n + m) (xs ++ news) -> w.grownBy w' v.ownBlock -> (v'.ownBlock = v.ownBlock ∨ v'.ownBlock = some w.heap.size) -> K (a.put o.dst v') w') : o.wp P a w K Q := by
 obtain ⟨v', w', hrun, h2, h3, h4⟩ := run_append_any (P := P) w base t o.type e i z size bytes ht hi hz hsize hby hzs hsz v n xs hown B A m c news hr h1 h63 hbytes hbase
 unfold Oper.wp execOp
 simp only [ho, resolve, invoke, builtin, Sem.run_bind, Sem.run_pure, Result.andThen_ok, List.map_toArray, List.map_cons, List.map_nil, hs, hx, hrun]
 exact h v' w' h2 h3 h4
theorem wpList_append_any {ops : Array Oper} {rest : List Oper} {o : Oper} {a : Act} {Q : Exit -> Act -> World -> Prop} (hgd : o.guard = none) (s x : Operand) (t : TypeId)
  (ho : o.op = .call { callee := .builtin .append, args := #[s, x], argTypes := #[t, t] })
  (base : Nat) (e : TypeId) (i : TypeInfo) (z : Value) (size bytes : Nat) (ht : P.underlying t = some (.slice e)) (hi : P.info? e = some i) (hz : i.zero = some z)
  (hsize : i.size = size) (hby : i.bytes = bytes) (hzs : z.cells.size = size) (hsz : 0 < size)
  (v : Value) (n : Nat) (xs : List Value) (hs : a.eval s = v) (hown : w.ownsRow base e size v n xs)
  (B : Nat) (A : Option Addr) (m c : Nat) (news : List Value) (hx : a.eval x = .slice A m c) (hr : Reads w B size A m news) (h1 : ∀ u ∈ news, u.oneCell' = true)
  (h63 : n + m <= maxLen) (hbytes : (n + m) * bytes <= 140737488355328) (hbase : base <= w.heap.size)
  (h : ∀ v' w', w'.ownsRow base e size v' (n + m) (xs ++ news) -> w.grownBy w' v.ownBlock -> (v'.ownBlock = v.ownBlock ∨ v'.ownBlock = some w.heap.size) -> wpList P ops Q rest (a.put o.dst v') w') : wpList P ops Q (o :: rest) a w :=
 wpList_plain hgd fun _ hK => wp_append_any w s x t ho base e i z size bytes ht hi hz hsize hby hzs hsz v n xs hs hown B A m c news hx hr h1 h63 hbytes hbase fun v' w' h2 h3 h4 => hK _ _ (h v' w' h2 h3 h4)
end
section
inductive Dt where
 | int (k : IntKind) (n : Int)
 | str (x : ByteArray)
 | bool (b : Bool)
 | rows (sz : Nat) (l : List (List Dt))
mutual
def DtV (w : World) (S : Nat -> Prop) (v : Value) : Dt -> Prop
 | .int k n => v = .int k n
 | .str x => v = .string x
 | .bool b => v = .bool b
 | .rows sz l => ∃ A c, v = .slice A l.length c /\ RowsV w S sz A 0 l
def RowsV (w : World) (S : Nat -> Prop) (sz : Nat) (A : Option Addr) (i : Nat) : List (List Dt) -> Prop
 | [] => True
 | r :: t => (∃ ad, A = some ad /\ (S ad.block /\ ad.block < w.heap.size) /\ r.length = sz /\ RowV w S (ad.add (i * sz)) 0 r) /\ RowsV w S sz A (i + 1) t
def RowV (w : World) (S : Nat -> Prop) (ad : Addr) (j : Nat) : List Dt -> Prop
 | [] => True
 | d :: t => (∃ v, w.cell? (ad.add j) = some v /\ DtV w S v d) /\ RowV w S ad (j + 1) t
end
def CellsV (w : World) (S : Nat -> Prop) : List Value -> List Dt -> Prop
 | xs, [] => xs = []
 | xs, d :: t => ∃ v r, xs = v :: r /\ DtV w S v d /\ CellsV w S r t
section
variable {w w' : World} {S S' : Nat -> Prop}
mutual
theorem DtV.keep (hs : w.heap.size <= w'.heap.size) (hk : ∀ b, S b -> b < w.heap.size -> S' b /\ w'.heap[b]? = w.heap[b]?) : ∀ (d : Dt) (v : Value), DtV w S v d -> DtV w' S' v d
 | .int k n, v, h => by unfold DtV at h ⊢; exact h
 | .str x, v, h => by unfold DtV at h ⊢; exact h
 | .bool b, v, h => by unfold DtV at h ⊢; exact h
 | .rows sz l, v, h => by
  unfold DtV at h ⊢;obtain ⟨A, c, e, hr⟩ := h;exact ⟨A, c, e, RowsV.keep hs hk l sz A 0 hr⟩
theorem RowsV.keep (hs : w.heap.size <= w'.heap.size) (hk : ∀ b, S b -> b < w.heap.size -> S' b /\ w'.heap[b]? = w.heap[b]?) : ∀ (l : List (List Dt)) (sz : Nat) (A : Option Addr) (i : Nat), RowsV w S sz A i l -> RowsV w' S' sz A i l
 | [], sz, A, i, h => by unfold RowsV; trivial
 | r :: t, sz, A, i, h => by
  unfold RowsV at h ⊢;obtain ⟨⟨ad, e, hb, hl, hr⟩, ht⟩ := h;exact ⟨⟨ad, e, ⟨(hk _ hb.1 hb.2).1, by omega⟩, hl, RowV.keep hs hk r _ 0 (by rw [block_of_add]; exact hb) hr⟩, RowsV.keep hs hk t sz A (i + 1) ht⟩
theorem RowV.keep (hs : w.heap.size <= w'.heap.size) (hk : ∀ b, S b -> b < w.heap.size -> S' b /\ w'.heap[b]? = w.heap[b]?) : ∀ (r : List Dt) (ad : Addr) (j : Nat), S ad.block /\ ad.block < w.heap.size -> RowV w S ad j r -> RowV w' S' ad j r
 | [], ad, j, _, h => by unfold RowV; trivial
 | d :: t, ad, j, hb, h => by
  unfold RowV at h ⊢;obtain ⟨⟨v, hc, hd⟩, ht⟩ := h;exact ⟨⟨v, (World.cell?_of_block (by rw [block_of_add]; exact (hk _ hb.1 hb.2).2)).trans hc, DtV.keep hs hk d v hd⟩, RowV.keep hs hk t ad (j + 1) hb ht⟩
end
theorem CellsV.keep (hs : w.heap.size <= w'.heap.size) (hk : ∀ b, S b -> b < w.heap.size -> S' b /\ w'.heap[b]? = w.heap[b]?) : ∀ (r : List Dt) (xs : List Value), CellsV w S xs r -> CellsV w' S' xs r
 | [], xs, h => h
 | d :: t, xs, ⟨v, ys, e, hd, hr⟩ => ⟨v, ys, e, DtV.keep hs hk d v hd, CellsV.keep hs hk t ys hr⟩
theorem DtV.below {d : Dt} {v : Value} (h : DtV w S v d) (hb : Below w.heap.size w w') : DtV w' S v d := DtV.keep hb.size (fun b hS hl => ⟨hS, hb.block b hl⟩) d v h
theorem DtV.to {d : Dt} {v : Value} (h : DtV w S v d) (hb : ∀ b, S b -> b < w.heap.size -> S' b) : DtV w S' v d := DtV.keep (Nat.le_refl _) (fun b hS hl => ⟨hb b hS hl, rfl⟩) d v h
theorem RowsV.below {l : List (List Dt)} {sz i : Nat} {A : Option Addr} (h : RowsV w S sz A i l) (hb : Below w.heap.size w w') : RowsV w' S sz A i l := RowsV.keep hb.size (fun b hS hl => ⟨hS, hb.block b hl⟩) l sz A i h
theorem RowsV.to {l : List (List Dt)} {sz i : Nat} {A : Option Addr} (h : RowsV w S sz A i l) (hb : ∀ b, S b -> b < w.heap.size -> S' b) : RowsV w S' sz A i l := RowsV.keep (Nat.le_refl _) (fun b hS hl => ⟨hb b hS hl, rfl⟩) l sz A i h
theorem CellsV.below {r : List Dt} {xs : List Value} (h : CellsV w S xs r) (hb : Below w.heap.size w w') : CellsV w' S xs r := CellsV.keep hb.size (fun b hS hl => ⟨hS, hb.block b hl⟩) r xs h
theorem CellsV.to {r : List Dt} {xs : List Value} (h : CellsV w S xs r) (hb : ∀ b, S b -> b < w.heap.size -> S' b) : CellsV w S' xs r := CellsV.keep (Nat.le_refl _) (fun b hS hl => ⟨hb b hS hl, rfl⟩) r xs h
theorem CellsV.len : ∀ {r : List Dt} {xs : List Value}, CellsV w S xs r -> xs.length = r.length
 | [], _, h => by rw [show _ = [] from h]; rfl
 | d :: t, _, ⟨v, ys, e, _, hr⟩ => by rw [e, List.length_cons, List.length_cons, CellsV.len hr]
theorem CellsV.app {r2 : List Dt} {ys : List Value} (h2 : CellsV w S ys r2) : ∀ {r : List Dt} {xs : List Value}, CellsV w S xs r -> CellsV w S (xs ++ ys) (r ++ r2)
 | [], _, h => by rw [show _ = [] from h]; exact h2
 | d :: t, _, ⟨v, zs, e, hd, hr⟩ => by
  subst e;exact ⟨v, zs ++ ys, rfl, hd, CellsV.app h2 hr⟩
theorem DtV.one {d : Dt} {v : Value} (h : DtV w S v d) : v.oneCell' = true := by
 cases d with
 | int k n => unfold DtV at h; rw [h]; rfl
 | str x => unfold DtV at h; rw [h]; rfl
 | bool b => unfold DtV at h; rw [h]; rfl
 | rows sz l => unfold DtV at h; obtain ⟨A, c, e, _⟩ := h; rw [e]; rfl
theorem CellsV.one : ∀ {r : List Dt} {xs : List Value}, CellsV w S xs r -> ∀ u ∈ xs, u.oneCell' = true
 | [], _, h => by rw [show _ = [] from h]; intro u hu; cases hu
 | d :: t, _, ⟨v, ys, e, hd, hr⟩ => by
  subst e;intro u hu;rcases List.mem_cons.1 hu with rfl | hu
  ·exact hd.one
  exact CellsV.one hr u hu
theorem RowsV.at_ : ∀ {l : List (List Dt)} {sz : Nat} {A : Option Addr} {i : Nat} {k : Nat} (hk : k < l.length), RowsV w S sz A i l -> ∃ ad, A = some ad /\ S ad.block /\ ad.block < w.heap.size /\ l[k].length = sz /\ RowV w S (ad.add ((i + k) * sz)) 0 l[k]
 | r :: t, sz, A, i, 0, hk, h => by
  unfold RowsV at h;obtain ⟨⟨ad, e, hb, hl, hr⟩, _⟩ := h;exact ⟨ad, e, hb.1, hb.2, hl, hr⟩
 | r :: t, sz, A, i, k + 1, hk, h => by
  unfold RowsV at h;have := RowsV.at_ (k := k) (by simpa using hk) h.2;rw [show i + (k + 1) = i + 1 + k by omega];exact this
theorem RowV.at_ : ∀ {r : List Dt} {ad : Addr} {j : Nat} {k : Nat} (hk : k < r.length), RowV w S ad j r -> ∃ v, w.cell? (ad.add (j + k)) = some v /\ DtV w S v r[k]
 | d :: t, ad, j, 0, hk, h => by
  unfold RowV at h;exact h.1
 | d :: t, ad, j, k + 1, hk, h => by
  unfold RowV at h;have := RowV.at_ (k := k) (by simpa using hk) h.2;rw [show j + (k + 1) = j + 1 + k by omega];exact this
theorem RowV.cells : ∀ {r : List Dt} {ad : Addr} {j : Nat}, RowV w S ad j r -> ∃ xs, CellsV w S xs r /\ ∀ k u, xs[k]? = some u -> w.cell? (ad.add (j + k)) = some u
 | [], ad, j, _ => ⟨[], rfl, fun k u h => by simp at h⟩
 | d :: t, ad, j, h => by
  unfold RowV at h;obtain ⟨⟨v, hc, hd⟩, ht⟩ := h;obtain ⟨xs, h1, h2⟩ := RowV.cells ht;refine ⟨v :: xs, ⟨v, xs, rfl, hd, h1⟩, fun k u hu => ?_⟩
  match k, hu with
  | 0, hu => simp only [List.getElem?_cons_zero, Option.some.injEq] at hu; rw [<- hu]; exact hc
  | k + 1, hu =>
   rw [List.getElem?_cons_succ] at hu;have := h2 k u hu;rw [show j + (k + 1) = j + 1 + k by omega]; exact this
theorem RowV.of_cells {ad : Addr} : ∀ {r : List Dt} {xs : List Value} {j : Nat}, CellsV w S xs r -> (∀ k u, xs[k]? = some u -> w.cell? (ad.add (j + k)) = some u) -> RowV w S ad j r
 | [], _, _, _, _ => by unfold RowV; trivial
 | d :: t, _, j, ⟨v, ys, e, hd, hr⟩, h => by
  subst e;unfold RowV;refine ⟨⟨v, h 0 v rfl, hd⟩, RowV.of_cells hr fun k u hu => ?_⟩;have := h (k + 1) u (by rw [List.getElem?_cons_succ]; exact hu);rw [show j + 1 + k = j + (k + 1) by omega]; exact this
theorem add_fld2 (ad : Addr) (j : Nat) : (⟨ad.block, ad.off + (j + 1), none⟩ : Addr) = ad.add (j + 1) := by rw [Addr.add_succ']
theorem RowsV.of_flat {sz : Nat} {ad : Addr} (hb : S ad.block /\ ad.block < w.heap.size) : ∀ {l : List (List Dt)} {xs : List Value} {i : Nat}, (∀ r ∈ l, r.length = sz) -> CellsV w S xs l.flatten -> (∀ k u, xs[k]? = some u -> w.cell? (ad.add (i * sz + k)) = some u) -> RowsV w S sz (some ad) i l
 | [], _, _, _, _, _ => by unfold RowsV; trivial
 | r :: t, xs, i, hl, hc, h => by
  have hr := hl r (by simp);have key : ∀ (a b : List Dt) (xs : List Value), CellsV w S xs (a ++ b) -> CellsV w S (xs.take a.length) a /\ CellsV w S (xs.drop a.length) b := by
   intro a
   induction a with
   | nil => intro b xs h; exact ⟨rfl, h⟩
   | cons d a ih =>
    intro b xs ⟨v, ys, e, hd, h⟩;subst e;obtain ⟨h1, h2⟩ := ih b ys h;exact ⟨⟨v, _, rfl, hd, h1⟩, h2⟩
  rw [List.flatten_cons] at hc;obtain ⟨h1, h2⟩ := key r t.flatten xs hc;rw [hr] at h1 h2;unfold RowsV;refine ⟨⟨ad, rfl, hb, hr, RowV.of_cells h1 fun k u hu => ?_⟩, RowsV.of_flat hb (fun q hq => hl q (List.mem_cons_of_mem _ hq)) h2 fun k u hu => ?_⟩
  ·rw [add_of_add, Nat.zero_add];have hk : k < sz := by
    have := (List.getElem?_eq_some_iff.1 hu).1;rw [List.length_take] at this; omega
   rw [List.getElem?_take_of_lt hk] at hu;exact h k u hu
  rw [List.getElem?_drop] at hu;have := h (sz + k) u hu;rw [show (i + 1) * sz + k = i * sz + (sz + k) by rw [Nat.add_mul]; omega];exact this
end
def OwnD (w : World) (base : Nat) (S : Nat -> Prop) (e : TypeId) (sz : Nat) (v : Value) (l : List (List Dt)) : Prop :=
 ∃ xs, w.ownsRow base e sz v l.length xs /\ CellsV w (fun b => S b /\ v.ownBlock ≠ some b) xs l.flatten /\ ∀ r ∈ l, r.length = sz
section
variable {w w' : World} {S S' : Nat -> Prop} {base : Nat} {e : TypeId} {sz : Nat} {v v' : Value} {l : List (List Dt)}
theorem OwnD.nil : OwnD w base S e sz (.slice none 0 0) [] := ⟨[], World.ownsRow_nil w base _ _, rfl, fun r h => by cases h⟩
theorem OwnD.keep (h : OwnD w base S e sz v l) (hb : Below w.heap.size w w') : OwnD w' base S e sz v l := by
 obtain ⟨xs, h1, h2, h3⟩ := h
 refine ⟨xs, ?_, h2.below hb, h3⟩
 refine World.ownsRow.kept (row := none) h1 ⟨hb.os, hb.tape, hb.output, hb.size, fun k hk _ => hb.block k hk⟩ ?_
 cases h0 : v.ownBlock <;> simp
theorem OwnD.drew (h : OwnD w base S e sz v l) : OwnD w.drew base S e sz v l := h.keep ⟨rfl, rfl, rfl, Nat.le_refl _, fun k _ => rfl⟩
theorem OwnD.lt (h : OwnD w base S e sz v l) (g : Nat) (hg : v.ownBlock = some g) : base <= g /\ g < w.heap.size := by
 obtain ⟨xs, h1, _⟩ := h
 exact World.ownsRow.lt h1 g hg
theorem OwnD.shape (h : OwnD w base S e sz v l) {n : Nat} (hn : l.length = n) : ∃ A c, v = .slice A n c := by
 subst hn
 obtain ⟨xs, h1, _⟩ := h
 rcases h1.2 with ⟨rfl, h0⟩ | ⟨g, cap, cur, rfl, _⟩
 ·exact ⟨none, 0, by rw [h0]⟩
 exact ⟨_, _, rfl⟩
theorem OwnD.stay (h : OwnD w base S e sz v l) (hs : w.heap.size <= w'.heap.size) (ho : ∀ g cur, v.ownBlock = some g -> w.heap[g]? = some (.cells cur e (0, 0)) -> w'.heap[g]? = w.heap[g]?) (hS : ∀ b, S b -> v.ownBlock ≠ some b -> b < w.heap.size -> w'.heap[b]? = w.heap[b]?) : OwnD w' base S e sz v l := by
 obtain ⟨xs, h1, h2, h3⟩ := h
 refine ⟨xs, ⟨h1.1, ?_⟩, CellsV.keep hs (fun b hb hl => ⟨hb, hS b hb.1 hb.2 hl⟩) _ _ h2, h3⟩
 rcases h1.2 with h0 | ⟨g, cap, cur, rfl, hb, hg, h4⟩
 ·exact .inl h0
 exact .inr ⟨g, cap, cur, rfl, hb, (ho g cur rfl hg).trans hg, h4⟩
theorem OwnD.to (h : OwnD w base S e sz v l) (hb : ∀ b, S b -> b < w.heap.size -> S' b) : OwnD w base S' e sz v l := by
 obtain ⟨xs, h1, h2, h3⟩ := h
 exact ⟨xs, h1, h2.to fun b hS hl => ⟨hb b hS.1 hl, hS.2⟩, h3⟩
theorem OwnD.dt (h : OwnD w base S e sz v l) (hS : ∀ b, base <= b -> S b) : DtV w S v (.rows sz l) := by
 obtain ⟨xs, h1, h2, h3⟩ := h
 have h2' : CellsV w S xs l.flatten := h2.to fun b hb _ => hb.1
 unfold DtV
 rcases h1.2 with ⟨rfl, h0⟩ | ⟨g, cap, cur, rfl, hb, hg, h4⟩
 ·obtain rfl := List.eq_nil_of_length_eq_zero h0;exact ⟨none, 0, rfl, by unfold RowsV; trivial⟩
 refine ⟨_, cap, rfl, RowsV.of_flat ⟨hS g hb, (World.ownsRow.lt h1 g rfl).2⟩ h3 h2' fun k u hu => ?_⟩
 rw [Nat.zero_mul, Nat.zero_add]
 exact World.ownsRow.cells h1 (g := g) rfl k u hu
theorem OwnD.snoc {r : List Dt} {us : List Value} (h : OwnD w base S e sz v l) (hr : CellsV w (fun b => S b /\ v.ownBlock ≠ some b) us r) (hl : r.length = sz) (hg : w.grownBy w' v.ownBlock) (hv : v'.ownBlock = v.ownBlock ∨ v'.ownBlock = some w.heap.size)
  (ho : ∀ xs, w.ownsRow base e sz v l.length xs -> w'.ownsRow base e sz v' (l.length + 1) (xs ++ us)) : OwnD w' base S e sz v' (l ++ [r]) := by
 obtain ⟨xs, h1, h2, h3⟩ := h
 refine ⟨xs ++ us, ?_, ?_, ?_⟩
 ·rw [List.length_append]; exact ho xs h1
 ·rw [List.flatten_append, List.flatten_cons, List.flatten_nil, List.append_nil];refine CellsV.keep hg.size (fun b hb hlt => ⟨⟨hb.1, ?_⟩, hg.block b hlt (fun e => hb.2 e.symm)⟩) _ _ (CellsV.app hr h2);rcases hv with e | e
  ·rw [e]; exact hb.2
  rw [e]; intro h; injection h; omega
 intro q hq
 rcases List.mem_append.1 hq with h | h
 ·exact h3 q h
 simp only [List.mem_cons, List.not_mem_nil, or_false] at h
 rw [h]; exact hl
theorem wpl_pushD {ops : Array Oper} {rest : List Oper} {o : Oper} {a : Act} {Q : Exit -> Act -> World -> Prop} {W : World} (hgd : o.guard = none) (s x : Operand) {t : TypeId}
  (ho : o.op = .call { callee := .builtin .append, args := #[s, x], argTypes := #[t, t] })
  {i0 : TypeInfo} {z : Value} {bytes : Nat} (ht : Tryz.prog.underlying t = some (.slice e)) (hi : Tryz.prog.info? e = some i0) (hz : i0.zero = some z) (hsize : i0.size = sz) (hby : i0.bytes = bytes) (hzs : z.cells.size = sz) (hsz : 0 < sz) (hby2 : bytes <= 1000)
  (H : OwnD W base S e sz v l) (hs : a.eval s = v) {us : List Value} {r : List Dt} (hr : CellsV W (fun b => S b /\ v.ownBlock ≠ some b) us r) (hl : r.length = sz) (hx : a.eval x = .slice (some ⟨W.heap.size, 0, none⟩) 1 1)
  (hn : l.length <= 1099511627776 / 16) (hbase : base <= W.heap.size)
  (h : ∀ v' w', OwnD w' base S e sz v' (l ++ [r]) -> Below base W w' -> (v'.ownBlock = v.ownBlock ∨ ∃ g, v'.ownBlock = some g /\ W.heap.size < g) -> W.grownBy w' v.ownBlock -> wpList Tryz.prog ops Q rest (a.put o.dst v') w') : wpList Tryz.prog ops Q (o :: rest) a (W.alloc (.cells us.toArray e)) := by
 have hal : Below W.heap.size W (W.alloc (.cells us.toArray e)) := (Below.refl _ _).alloc (Nat.le_refl _) _
 have H2 := H.keep hal
 obtain ⟨xs, h1, h2, h3⟩ := H2
 have hul : us.length = sz := by rw [hr.len, hl]
 have hcell : ∀ j u, us[j]? = some u -> (W.alloc (.cells us.toArray e)).cell? ((⟨W.heap.size, 0, none⟩ : Addr).add j) = some u := fun j u hu => by
  rw [Addr.add_lit, Nat.zero_add, World.cell?_alloc_mark]
  simpa using hu
 refine wpList_append_any (P := Tryz.prog) _ hgd s x t ho base e i0 z sz bytes ht hi hz hsize hby hzs hsz v l.length xs hs h1 (W.heap.size + 1) (some ⟨W.heap.size, 0, none⟩) 1 1 us hx ⟨by rw [hul, Nat.one_mul], fun _ => ⟨_, rfl, Nat.lt_succ_self _, hcell⟩⟩ hr.one (by unfold maxLen; omega) ?_ (by simp; omega) ?_
 ·have : (l.length + 1) * bytes <= (l.length + 1) * 1000 := Nat.mul_le_mul_left _ hby2;omega
 intro v' w' h4 h5 h6
 have h5' : W.grownBy w' v.ownBlock := by
  refine ⟨h5.os.trans hal.os, h5.tape.trans hal.tape, h5.output.trans hal.output, Nat.le_trans hal.size h5.size, fun k hk hne => (h5.block k (Nat.lt_of_lt_of_le hk hal.size) hne).trans (hal.block k hk)⟩
 refine h v' w' (OwnD.snoc (w := W.alloc (.cells us.toArray e)) ⟨xs, h1, h2, h3⟩ (hr.below hal) hl h5 h6 fun ys hy => ?_) ?_ ?_ h5'
 ·have : ys = xs := by
   rcases h1.2 with ⟨rfl, h0⟩ | ⟨g, cap, cur, rfl, _, hg, _, _, _, ht1⟩
   ·rcases hy.2 with ⟨_, _⟩ | ⟨g, cap, cur, e2, _⟩
    ·have e1 : ys = [] := List.eq_nil_of_length_eq_zero (by rw [hy.1, h0, Nat.zero_mul]);have e2 : xs = [] := List.eq_nil_of_length_eq_zero (by rw [h1.1, h0, Nat.zero_mul]);rw [e1, e2]
    cases e2
   rcases hy.2 with ⟨e2, _⟩ | ⟨g', cap', cur', e2, _, hg', _, _, _, ht2⟩
   ·cases e2
   have e3 : g' = g := by have := congrArg Value.ownBlock e2; simpa [Value.ownBlock] using this.symm
   rw [e3, hg] at hg';have e4 := (Obj.cells.inj (Option.some.inj hg')).1;rw [<- ht1, <- ht2, e4]
  rw [this]; exact h4
 ·exact (hal.mono hbase).trans ((Below.refl base _).grown h5 (Nat.le_trans hbase hal.size) fun k hk => (World.ownsRow.lt h1 k hk).1)
 rcases h6 with e | e
 ·exact .inl e
 exact .inr ⟨_, e, by simp⟩
end
end
end Go.Proofs.YtkcnmjdomipbjaaGreat
