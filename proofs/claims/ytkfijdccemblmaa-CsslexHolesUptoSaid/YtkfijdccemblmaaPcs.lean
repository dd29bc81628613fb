/- csslex.Pieces: the deferred closure, the loop, the three ways out. -/
import Derived.Test.YtkfijdccemblmaaLex
import Derived.Test.YtkfijdccemblmaaReads
import Derived.Defers
import Derived.Recover
import Derived.Laws.Pointers
import Derived.Deep.LoopGhost
import Derived.Deep.RegionHeld3
import Derived.Deep.RegionLaw
import Derived.Deep.AppendLies
set_option linter.unusedVariables false
namespace Go.Proofs.Ytkfijdccemblmaa
open Go.RowKit

theorem assert_fault (a e : Int) (w : World) : (Instr.typeAssert (.iface 38 (.agg #[.int .i64 a, .int .i64 e])) 20 38 true).run Try.prog w = .ok (.tuple #[.agg #[.int .i64 a, .int .i64 e], .bool true]) w := by kernel_rfl
theorem assert_none (w : World) : (Instr.typeAssert .nilIface 20 38 true).run Try.prog w = .ok (.tuple #[.agg #[.int .i64 0, .int .i64 0], .bool false]) w := by kernel_rfl

set_option maxHeartbeats 800000 in
theorem catch_panicking (b : Nat) (v0 : Value) (a0 e0 a e : Int) (older : List PanicEntry) (w : World) (h0 : w.heap[b]? = some (.cells #[v0] 23 (0, 0))) (h1 : w.heap[b + 1]? = some (.cells #[.int .i64 a0] 3 (0, 0))) (h2 : w.heap[b + 2]? = some (.cells #[.int .i64 e0] 24 (0, 0))) :
    CallsD Try.prog 13 #[.pointer (some ⟨b, 0, none⟩), .pointer (some ⟨b + 1, 0, none⟩), .pointer (some ⟨b + 2, 0, none⟩)] (.panicking ({ v := .iface 38 (.agg #[.int .i64 a, .int .i64 e]), recovered := false } :: older)) w fun r u' w' =>
      r = .returned (.tuple #[]) ∧ u' = .panicking ({ v := .iface 38 (.agg #[.int .i64 a, .int .i64 e]), recovered := true } :: older) ∧ Below b w w' ∧ w'.heap[b]? = some (.cells #[.slice none 0 0] 23 (0, 0)) ∧ w'.heap[b + 1]? = some (.cells #[.int .i64 a] 3 (0, 0)) ∧ w'.heap[b + 2]? = some (.cells #[.int .i64 e] 24 (0, 0)) := by
  refine callsD_of_wpS Try.func13 rfl fun c₀ cs hu => ?_
  apply wpS_seq
  apply wpS_region
  simp [wpOpsS, go_sem, recoverD, hu, Try.ntmps13, Exit.thenS, assert_fault]
  apply wpS_seq
  apply wpS_region
  simp [wpOpsS, go_sem, Exit.thenS]
  refine wpS_cond (t := true) (by simp [Act.eval, Array.replicate]) ?_
  simp only [if_true]
  refine wpS_of_wp ?_
  simp [Array.replicate]
  have hbw : b + 2 < w.heap.size := by
    rcases Nat.lt_or_ge (b + 2) w.heap.size with h | h
    · exact h
    · rw [Array.getElem?_eq_none h] at h2; cases h2
  obtain ⟨W, hW⟩ : ∃ W, w.alloc (.cells #[.int .i64 a, .int .i64 e] 38) = W := ⟨_, rfl⟩
  obtain ⟨g, hg⟩ : ∃ g, w.heap.size = g := ⟨_, rfl⟩
  have hbel : Below b w W := by rw [← hW]; exact (Below.refl _ _).alloc (by omega) _
  have H0 : Hid (W.heap[b]? = some (.cells #[v0] 23 (0, 0))) := hid (by rw [← hW, Below.heap_alloc _ _ _ (by omega)]; exact h0)
  have H1 : Hid (W.heap[b + 1]? = some (.cells #[.int .i64 a0] 3 (0, 0))) := hid (by rw [← hW, Below.heap_alloc _ _ _ (by omega)]; exact h1)
  have H2 : Hid (W.heap[b + 2]? = some (.cells #[.int .i64 e0] 24 (0, 0))) := hid (by rw [← hW, Below.heap_alloc _ _ _ (by omega)]; exact h2)
  have d0 : W.cell? ⟨g, 0, none⟩ = some (.int .i64 a) := by rw [← hW, ← hg]; simp
  have d1 : W.cell? ⟨g, 1, none⟩ = some (.int .i64 e) := by rw [← hW, ← hg]; simp
  have c0 : W.cell? ⟨b, 0, none⟩ = some v0 := by rw [Lib.cell_of_heap H0.out]; rfl
  have c1 : W.cell? ⟨b + 1, 0, none⟩ = some (.int .i64 a0) := by rw [Lib.cell_of_heap H1.out]; rfl
  have c2 : W.cell? ⟨b + 2, 0, none⟩ = some (.int .i64 e0) := by rw [Lib.cell_of_heap H2.out]; rfl
  have f0 : W.frozen? ⟨b, 0, none⟩ = false := Lib.frozen_of_heap H0.out 0
  have f1 : W.frozen? ⟨b + 1, 0, none⟩ = false := Lib.frozen_of_heap H1.out 0
  have f2 : W.frozen? ⟨b + 2, 0, none⟩ = false := Lib.frozen_of_heap H2.out 0
  have n1 : ¬ g = b := by omega
  have n2 : ¬ g = b + 1 := by omega
  have n3 : ¬ g = b + 2 := by omega
  rw [hW, hg]
  clear h0 h1 h2 hW hg
  go_region
  simp [bodyPostS, results, Try.results13]
  have k0 : Blk ((W.setCell ⟨b, 0, none⟩ (.slice none 0 0))) b 23 #[.slice none 0 0] := Blk.set_ (H0.out) 0 _
  have k1 : Blk (((W.setCell ⟨b, 0, none⟩ (.slice none 0 0))).setCell ⟨b + 1, 0, none⟩ (.int .i64 a)) (b + 1) 3 #[.int .i64 a] := Blk.set_ (Blk.far (H1.out) (p := ⟨b, 0, none⟩) (by show b + 1 ≠ b; omega) _) 0 _
  have k2 : Blk ((((W.setCell ⟨b, 0, none⟩ (.slice none 0 0))).setCell ⟨b + 1, 0, none⟩ (.int .i64 a)).setCell ⟨b + 2, 0, none⟩ (.int .i64 e)) (b + 2) 24 #[.int .i64 e] := Blk.set_ (Blk.far (Blk.far (H2.out) (p := ⟨b, 0, none⟩) (by show b + 2 ≠ b; omega) _) (p := ⟨b + 1, 0, none⟩) (by show b + 2 ≠ b + 1; omega) _) 0 _
  refine ⟨?_, ?_, ?_, ?_⟩
  · exact (((hbel.setCell (Nat.le_refl _) _).setCell (by show b ≤ b + 1; omega) _).setCell (by show b ≤ b + 2; omega) _).drew
  · exact Blk.drew (Blk.far (Blk.far k0 (p := ⟨b + 1, 0, none⟩) (by show b ≠ b + 1; omega) _) (p := ⟨b + 2, 0, none⟩) (by show b ≠ b + 2; omega) _)
  · exact Blk.drew (Blk.far k1 (p := ⟨b + 2, 0, none⟩) (by show b + 1 ≠ b + 2; omega) _)
  · exact Blk.drew k2

set_option maxHeartbeats 800000 in
theorem catch_idle (b : Nat) (w : World) :
    CallsD Try.prog 13 #[.pointer (some ⟨b, 0, none⟩), .pointer (some ⟨b + 1, 0, none⟩), .pointer (some ⟨b + 2, 0, none⟩)] .returning w fun r u' w' =>
      r = .returned (.tuple #[]) ∧ u' = .returning ∧ Below w.heap.size w w' := by
  refine callsD_of_wpS Try.func13 rfl fun c₀ cs hu => ?_
  apply wpS_seq
  apply wpS_region
  simp [wpOpsS, go_sem, recoverD, hu, Try.ntmps13, Exit.thenS, assert_none]
  apply wpS_seq
  apply wpS_region
  simp [wpOpsS, go_sem, Exit.thenS]
  refine wpS_cond (t := false) (by simp [Act.eval, Array.replicate]) ?_
  simp only [Bool.false_eq_true, if_false]
  refine wpS_of_wp (wp_skip ?_)
  have hb : Below w.heap.size w (w.alloc (.cells #[.int .i64 0, .int .i64 0] 38)) := (Below.refl _ _).alloc (Nat.le_refl _) _
  cases c₀
  simp_all [bodyPostS, results, Try.results13]

/-- the cells of a piece -/
def Pc.cells (p : Pc) : List Value := [.int .i64 p.k, .string ⟨p.x.toArray⟩, .int .i64 (p.a : Int)]
def pcCells (l : List Pc) : List Value := l.flatMap Pc.cells
theorem pcCells_snoc (l : List Pc) (p : Pc) : pcCells (l ++ [p]) = pcCells l ++ p.cells := by simp [pcCells]
theorem info_pc : (Try.prog.info? 28).map (fun i => (i.zero, i.size, i.bytes)) = some (some (.agg #[.int .i64 0, .string ⟨#[]⟩, .int .i64 0]), 3, 32) := by kernel_rfl
/-- the value v owns, from block 'base' on, just these pieces -/
def OwnP (w : World) (base : Nat) (v : Value) (l : List Pc) : Prop := w.ownsRow base 28 3 v l.length (pcCells l)
theorem OwnP.nil (w : World) (base : Nat) : OwnP w base (.slice none 0 0) [] := World.ownsRow_nil w base _ _
theorem OwnP.keep {w w' : World} {base : Nat} {v : Value} {l : List Pc} (h : OwnP w base v l) (hb : Below w.heap.size w w') : OwnP w' base v l := by
  refine World.ownsRow.kept (row := none) h ⟨hb.os, hb.tape, hb.output, hb.size, fun k hk _ => hb.block k hk⟩ ?_
  cases h0 : v.ownBlock <;> simp
theorem OwnP.shape {w : World} {base : Nat} {v : Value} {l : List Pc} (h : OwnP w base v l) {k : Nat} (hk : l.length = k) : ∃ ad cap, v = .slice ad k cap := by
  subst hk
  rcases h.2 with ⟨rfl, h0⟩ | ⟨g, cap, cur, rfl, _⟩
  · exact ⟨none, 0, by rw [h0]⟩
  · exact ⟨_, _, rfl⟩
theorem OwnP.less {w : World} {base base' : Nat} {v : Value} {l : List Pc} (h : OwnP w base v l) (hb : base' ≤ base) : OwnP w base' v l := by
  refine ⟨h.1, ?_⟩
  rcases h.2 with h0 | ⟨g, c, cur, e, hg, h1⟩
  · exact .inl h0
  · exact .inr ⟨g, c, cur, e, Nat.le_trans hb hg, h1⟩
/-- returns pieces, a place, an error -/
def RPcs (w : World) (r : List Pc × Nat × Int) (e : Ending) (w' : World) : Prop := ∃ (A : Option Addr) (n cap : Nat) (a er : Int), e = .returned (.tuple #[.slice A n cap, .int .i64 a, .int .i64 er]) ∧ Hid (r.1.length = n) ∧ Hid (a = (r.2.1 : Int)) ∧ Hid (er = r.2.2) ∧ Hid (OwnP w' w.heap.size (.slice A n cap) r.1) ∧ Below w.heap.size w w'
/-- the three results' cells -/
def St (w : World) (b : Nat) (v : Value) (k e : Int) : Prop := Blk w b 23 #[v] ∧ Blk w (b + 1) 3 #[.int .i64 k] ∧ Blk w (b + 2) 24 #[.int .i64 e]
theorem St.below {w w' : World} {b B : Nat} {v : Value} {k e : Int} (h : St w b v k e) (hb : Below B w w') (hB : b + 2 < B) : St w' b v k e := ⟨h.1.below hb (by omega), h.2.1.below hb (by omega), h.2.2.below hb (by omega)⟩
theorem St.keep {w w' : World} {b : Nat} {v : Value} {k e : Int} (h : St w b v k e) (hb : Below w.heap.size w w') : St w' b v k e := h.below hb h.2.2.lt
theorem St.c0 {w : World} {b : Nat} {v : Value} {k e : Int} (h : St w b v k e) : w.cell? ⟨b, 0, none⟩ = some v := (h.1.cell 0).trans rfl
theorem St.c1 {w : World} {b : Nat} {v : Value} {k e : Int} (h : St w b v k e) : w.cell? ⟨b + 1, 0, none⟩ = some (.int .i64 k) := (h.2.1.cell 0).trans rfl
theorem St.c2 {w : World} {b : Nat} {v : Value} {k e : Int} (h : St w b v k e) : w.cell? ⟨b + 2, 0, none⟩ = some (.int .i64 e) := (h.2.2.cell 0).trans rfl
theorem St.at_ {w : World} {b : Nat} {v : Value} {k e : Int} (h : St w b v k e) (k' : Int) : St (w.setCell ⟨b + 1, 0, none⟩ (.int .i64 k')) b v k' e :=
  ⟨h.1.far (p := ⟨b + 1, 0, none⟩) (by show b ≠ b + 1; omega) _, h.2.1.set_ 0 _, h.2.2.far (p := ⟨b + 1, 0, none⟩) (by show b + 2 ≠ b + 1; omega) _⟩
theorem St.put {w : World} {b : Nat} {v : Value} {k e : Int} (h : St w b v k e) (v' : Value) : St (w.setCell ⟨b, 0, none⟩ v') b v' k e :=
  ⟨h.1.set_ 0 _, h.2.1.far (p := ⟨b, 0, none⟩) (by show b + 1 ≠ b; omega) _, h.2.2.far (p := ⟨b, 0, none⟩) (by show b + 2 ≠ b; omega) _⟩

/-- what the cell holds -/
def rdC (b : Nat) (w : World) : Value := (w.cell? ⟨b, 0, none⟩).getD .nilIface
theorem rdC_of {b : Nat} {w : World} {v : Value} (h : w.cell? ⟨b, 0, none⟩ = some v) : rdC b w.drew = v := by
  unfold rdC
  show (w.cell? ⟨b, 0, none⟩).getD .nilIface = v
  rw [h]; rfl
theorem rdC_is {b : Nat} {w : World} {v : Value} (h : w.cell? ⟨b, 0, none⟩ = some v) : rdC b w = v := by
  unfold rdC; rw [h]; rfl
theorem rd_of {b : Nat} {w : World} {v : Value} (h : w.cell? ⟨b, 0, none⟩ = some v) : w.cell? ⟨b, 0, none⟩ = some (rdC b w) := by
  unfold rdC; rw [h]; rfl
theorem cell_new (w : World) (o : Obj) (p : Addr) (h : p.block < w.heap.size) : (w.alloc o).drew.cell? p = w.cell? p := by
  show (w.alloc o).cell? p = w.cell? p
  have := (Below.refl w.heap.size w).alloc (Nat.le_refl _) o
  exact this.cell h
theorem frozen_new (w : World) (o : Obj) (p : Addr) (h : p.block < w.heap.size) : (w.alloc o).drew.frozen? p = w.frozen? p := by
  show (w.alloc o).frozen? p = w.frozen? p
  have := (Below.refl w.heap.size w).alloc (Nat.le_refl _) o
  exact this.frozen h
set_option maxHeartbeats 800000 in
theorem res_pcs (tmps : Array Value) (w : World) (b : Nat) (v : Value) (k e : Int) (h2 : tmps[2]? = some (.pointer (some ⟨b, 0, none⟩))) (h3 : tmps[3]? = some (.pointer (some ⟨b + 1, 0, none⟩))) (h4 : tmps[4]? = some (.pointer (some ⟨b + 2, 0, none⟩))) (hs : St w b v k e) :
    (results Try.f8 tmps).run Try.prog w = .ok (.tuple #[v, .int .i64 k, .int .i64 e]) w := by
  have c0 := hs.c0
  have c1 := hs.c1
  have c2 := hs.c2
  simp [results, Try.results8, go_sem, h2, h3, h4, c0, c1, c2]
set_option maxHeartbeats 800000 in
theorem leave_none (tmps : Array Value) (w : World) (b : Nat) (v : Value) (k e : Int) (R : Ending → World → Prop) (h2 : tmps[2]? = some (.pointer (some ⟨b, 0, none⟩))) (h3 : tmps[3]? = some (.pointer (some ⟨b + 1, 0, none⟩))) (h4 : tmps[4]? = some (.pointer (some ⟨b + 2, 0, none⟩))) (hs : St w b v k e)
    (hR : R (.returned (.tuple #[v, .int .i64 k, .int .i64 e])) w) : Leaves Try.prog Try.f8 tmps R [] .returning w :=
  ⟨_, res_pcs tmps w b v k e h2 h3 h4 hs, hR⟩
def door (b : Nat) : List Deferred := [{ target := .fn (.func 13) #[.pointer (some ⟨b, 0, none⟩), .pointer (some ⟨b + 1, 0, none⟩), .pointer (some ⟨b + 2, 0, none⟩)], args := #[] }]
set_option maxHeartbeats 800000 in
theorem leave_idle (tmps : Array Value) (w : World) (b : Nat) (v : Value) (k e : Int) (R : Ending → World → Prop) (h2 : tmps[2]? = some (.pointer (some ⟨b, 0, none⟩))) (h3 : tmps[3]? = some (.pointer (some ⟨b + 1, 0, none⟩))) (h4 : tmps[4]? = some (.pointer (some ⟨b + 2, 0, none⟩))) (hs : St w b v k e)
    (hR : ∀ w', Below w.heap.size w w' → R (.returned (.tuple #[v, .int .i64 k, .int .i64 e])) w') : Leaves Try.prog Try.f8 tmps R (door b) .returning w := by
  unfold door
  refine leaves_cons (f := 13) (args := #[.pointer (some ⟨b, 0, none⟩), .pointer (some ⟨b + 1, 0, none⟩), .pointer (some ⟨b + 2, 0, none⟩)]) (by simp) (by simp [go_sem]) ?_
  refine (catch_idle b w).mono ?_
  rintro r u' w' ⟨rfl, rfl, hb⟩
  exact leave_none tmps w' b v k e R h2 h3 h4 (hs.keep hb) (hR w' hb)
set_option maxHeartbeats 800000 in
theorem leave_panic (tmps : Array Value) (w : World) (b : Nat) (v : Value) (k0 e0 a e : Int) (R : Ending → World → Prop) (h2 : tmps[2]? = some (.pointer (some ⟨b, 0, none⟩))) (h3 : tmps[3]? = some (.pointer (some ⟨b + 1, 0, none⟩))) (h4 : tmps[4]? = some (.pointer (some ⟨b + 2, 0, none⟩))) (hs : St w b v k0 e0)
    (hR : ∀ w', Below b w w' → R (.returned (.tuple #[.slice none 0 0, .int .i64 a, .int .i64 e])) w') : Leaves Try.prog Try.f8 tmps R (door b) (.panicking [{ v := .iface 38 (.agg #[.int .i64 a, .int .i64 e]), recovered := false }]) w := by
  unfold door
  refine leaves_cons (f := 13) (args := #[.pointer (some ⟨b, 0, none⟩), .pointer (some ⟨b + 1, 0, none⟩), .pointer (some ⟨b + 2, 0, none⟩)]) (by simp) (by simp [go_sem]) ?_
  refine (catch_panicking b v k0 e0 a e [] w hs.1 hs.2.1 hs.2.2).mono ?_
  rintro r u' w' ⟨rfl, rfl, hb, g0, g1, g2⟩
  exact leave_none tmps w' b _ a e R h2 h3 h4 ⟨g0, g1, g2⟩ (hR w' hb)

theorem St.alloc {w : World} {b : Nat} {v : Value} {k e : Int} (h : St w b v k e) (o : Obj) : St (w.alloc o) b v k e := ⟨h.1.alloc o, h.2.1.alloc o, h.2.2.alloc o⟩
theorem St.drew {w : World} {b : Nat} {v : Value} {k e : Int} (h : St w b v k e) : St w.drew b v k e := h
theorem St.grown {w w' : World} {b : Nat} {v : Value} {k e : Int} {row : Option Nat} (h : St w b v k e) (hg : w.grownBy w' row) (h0 : some b ≠ row) (h1 : some (b + 1) ≠ row) (h2 : some (b + 2) ≠ row) : St w' b v k e := ⟨h.1.grown hg h0, h.2.1.grown hg h1, h.2.2.grown hg h2⟩
theorem St.err {w : World} {b : Nat} {v : Value} {k e : Int} (h : St w b v k e) (e' : Int) : St (w.setCell ⟨b + 2, 0, none⟩ (.int .i64 e')) b v k e' :=
  ⟨h.1.far (p := ⟨b + 2, 0, none⟩) (by show b ≠ b + 2; omega) _, h.2.1.far (p := ⟨b + 2, 0, none⟩) (by show b + 1 ≠ b + 2; omega) _, h.2.2.set_ 0 _⟩

set_option maxRecDepth 100000 in
set_option maxHeartbeats 1600000 in
theorem pieces_long (s : ByteArray) (w : World) (hs : s.size ≤ 1048600) (hl : ¬ s.size ≤ 65536) :
    Calls Try.prog 8 #[.string s] w (RPcs w (pieces s.data.toList)) := by
  have HP : Hid (pieces s.data.toList = ([], 0, 5)) := hid (by unfold pieces; rw [if_neg (by rw [len_data]; exact hl)])
  have hl2 : (65536 : Int) < s.size := by omega
  go_enter_defers Try.func8, Try.ntmps8
  go_wp2
  have hs : St (((w.alloc (.cells #[.slice none 0 0] 23)).alloc (.cells #[.int .i64 0] 3)).alloc (.cells #[.int .i64 5] 24)) w.heap.size (.slice none 0 0) 0 5 :=
    ⟨((Blk.new w _ _).alloc _).alloc _, (by have := (Blk.new (w.alloc (.cells #[.slice none 0 0] 23)) 3 #[.int .i64 0]).alloc (.cells #[.int .i64 5] 24); simpa using this), by have := Blk.new ((w.alloc (.cells #[.slice none 0 0] 23)).alloc (.cells #[.int .i64 0] 3)) 24 #[.int .i64 5]; simpa using this⟩
  refine leave_none _ _ w.heap.size _ 0 5 _ (by simp) (by simp) (by simp) hs ?_
  refine ⟨none, 0, 0, 0, 5, rfl, ?_, ?_, ?_, ?_, ?_⟩
  · rw [HP.out]; exact hid rfl
  · rw [HP.out]; exact hid rfl
  · rw [HP.out]; exact hid rfl
  · rw [HP.out]; exact hid (OwnP.nil _ _)
  · exact (((Below.refl _ _).alloc (Nat.le_refl _) _).alloc (by simp) _).alloc (by simp; omega) _

set_option maxRecDepth 100000 in
set_option maxHeartbeats 3200000 in
theorem pieces_short (s : ByteArray) (w : World) (hl : s.size ≤ 65536) (hm : MaxAt w) :
    Calls Try.prog 8 #[.string s] w (RPcs w (pieces s.data.toList)) := by
  have HP : Hid (pieces s.data.toList = pcsT s.data.toList 0 []) := hid (by unfold pieces; rw [if_pos (by rw [len_data]; exact hl)])
  have hl2 : ¬ (65536 : Int) < s.size := by omega
  have hmf : ∀ (fn : Fn) (first cap : Array Value) (w : World), (Instr.makeFunc fn first cap).run Try.prog w = .ok (.func fn first cap) w := fun _ _ _ _ => rfl
  have Hm := hid hm
  have Hlen := hid (len_data s)
  clear hm
  obtain ⟨b, hb⟩ : ∃ b, w.heap.size = b := ⟨_, rfl⟩
  have hs0 : St (((w.alloc (.cells #[.slice none 0 0] 23)).alloc (.cells #[.int .i64 0] 3)).alloc (.cells #[.int .i64 0] 24)) b (.slice none 0 0) 0 0 := by
    rw [← hb]
    exact ⟨((Blk.new w _ _).alloc _).alloc _, (by have := (Blk.new (w.alloc (.cells #[.slice none 0 0] 23)) 3 #[.int .i64 0]).alloc (.cells #[.int .i64 0] 24); simpa using this), by have := Blk.new ((w.alloc (.cells #[.slice none 0 0] 23)).alloc (.cells #[.int .i64 0] 3)) 24 #[.int .i64 0]; simpa using this⟩
  have HS0 := hid hs0
  have Hb := hid hb
  have hbw0 : Below b w (((w.alloc (.cells #[.slice none 0 0] 23)).alloc (.cells #[.int .i64 0] 3)).alloc (.cells #[.int .i64 0] 24)) := by
    rw [← hb]
    exact (((Below.refl _ _).alloc (Nat.le_refl _) _).alloc (by simp) _).alloc (by simp; omega) _
  clear hs0
  go_enter_defers Try.func8, Try.ntmps8
  go_wp2
  go_loopg [5] s.size (fun g x wr => ∃ (k : Nat) (acc : List Pc) (v : Value), k ≤ s.size ∧ g = s.size - k ∧ acc.length ≤ 4096 ∧ Hid (St wr b v k 0) ∧ Hid (OwnP wr (b + 3) v acc) ∧ Hid (pcsT s.data.toList 0 [] = pcsT (s.data.toList.drop k) k acc) ∧ Below b w wr)
  case atStart => exact ⟨0, [], .slice none 0 0, Nat.zero_le _, rfl, by simp, hid HS0.out, hid (OwnP.nil _ _), hid rfl, hbw0⟩
  case round =>
    obtain ⟨k, acc, v, hk, rfl, hac, hS, hO, hp, hbw⟩ := hrel
    obtain ⟨m, hm⟩ : ∃ m, acc.length = m := ⟨_, rfl⟩
    have Hm' := hid hm
    obtain ⟨A, vc, rfl⟩ := hO.out.shape hm
    rw [hm] at hac
    clear hm
    have c0 := hS.out.c0
    have c1 := hS.out.c1
    have f1 : wr.frozen? ⟨b + 1, 0, none⟩ = false := hS.out.2.1.frozen 0
    by_cases hlt : k < s.size
    · obtain ⟨n, hn, hn0, hn1, hbn⟩ := byte_of s k hlt
      have Hd := hid (drop_at s k hlt)
      rw [← hbn] at Hd
      have Hbl := hid (fun W => blank_any n hn0 hn1 W)
      clear hbn
      cases hbk : isBlank (bOf n) with
      | true =>
        have Hk := hid hbk
        clear hbk
        go_wp2_with fail
        refine (Hbl.out _).mono ?_
        rintro e w1 ⟨rfl, rfl⟩
        rw [Hk.out]
        go_wp2
        go_roundg (s.size - (k + 1))
        case measure => omega
        case rel =>
          refine ⟨k + 1, acc, .slice A m vc, by omega, rfl, by rw [Hm'.out]; omega, hid ?_, hid ?_, hid ?_, ?_⟩
          · have := hS.out.at_ ((k : Int) + 1); simpa using this
          · exact ownsRow_setCell_below hO.out (by show b + 1 < b + 3; omega) _
          · rw [hp.out, Hd.out, pcsT_blank _ _ _ _ Hk.out]
          · exact hbw.setCell (by show b ≤ b + 1; omega) _
      | false =>
        have Hk := hid hbk
        clear hbk
        go_wp2_with fail
        refine (Hbl.out _).mono ?_
        rintro e w1 ⟨rfl, rfl⟩
        rw [Hk.out]
        go_wp2_with fail
        refine (lexOne_any s k wr (by omega) hlt (Hm.out.keep (by rw [Hb.out]; exact hbw))).mono ?_
        rintro e w1 ⟨kd, to, rfl, hkd, hto, hb1⟩
        have hbw1 : Below b w w1 := hbw.trans (hb1.mono (by have := hbw.size; rw [Hb.out] at this; exact this))
        have hS1 := hid (hS.out.keep hb1)
        have hO1 := hid (hO.out.keep hb1)
        clear c0 c1 f1
        have c0 := hS1.out.c0
        have c1 := hS1.out.c1
        have f1 : w1.frozen? ⟨b + 1, 0, none⟩ = false := hS1.out.2.1.frozen 0
        have f0 : w1.frozen? ⟨b, 0, none⟩ = false := hS1.out.1.frozen 0
        obtain ⟨o, ho⟩ : ∃ o, (oneP (s.data.toList.drop k)).2 = o := ⟨_, rfl⟩
        rw [ho] at hto
        have Ho := hid ho
        clear ho
        cases o with
        | none =>
          obtain rfl : to = -1 := hto.out
          have HE : Hid (pcsT s.data.toList 0 [] = ([], k, 33)) := hid (by rw [hp.out, Hd.out]; exact pcsT_none _ _ _ _ Hk.out (by rw [← Hd.out]; exact Ho.out))
          go_wp2_with fail
          refine (need_bad _ _ _).mono ?_
          rintro e w2 ⟨rfl, rfl⟩
          go_wp2
          refine leave_panic _ _ b _ k 0 k 33 _ (by simp) (by simp) (by simp) hS1.out ?_
          intro w2 hb2
          refine ⟨none, 0, 0, k, 33, rfl, ?_, ?_, ?_, ?_, ?_⟩
          · rw [HP.out, HE.out]; exact hid rfl
          · rw [HP.out, HE.out]; exact hid rfl
          · rw [HP.out, HE.out]; exact hid rfl
          · rw [HP.out, HE.out]; exact hid (OwnP.nil _ _)
          · rw [Hb.out]; exact hbw1.trans hb2
        | some q =>
          have hle := oneP_le _ _ q (by rw [← Hd.out]; exact Ho.out)
          have hql : 1 ≤ q ∧ k + q ≤ s.size := by
            have := hle.2
            rw [List.length_drop, Hlen.out] at this
            omega
          obtain ⟨hq1, hq2⟩ := hql
          obtain ⟨j, hj⟩ : ∃ j, k + q = j := ⟨_, rfl⟩
          have hkj : k < j ∧ j ≤ s.size := by omega
          obtain ⟨hkj, hjs⟩ := hkj
          obtain rfl : to = (j : Int) := by rw [hto.out, ← hj]; simp only [endI]; omega
          have Hj := hid hj
          clear hle hq1 hq2 hj
          by_cases hm4 : m < 4096
          · have hm4b : decide ((m : Int) < 4096) = true := decide_eq_true (by omega)
            go_wp2_with fail
            refine (need_ok _ _ _).mono ?_
            rintro e w2 ⟨rfl, rfl⟩
            go_wp2_with fail
            refine (need_ok _ _ _).mono ?_
            rintro e w2 ⟨rfl, rfl⟩
            go_wp2_with fail
            have hn0' : (0 : Int) ≤ (k : Int) := by omega
            have hn1' : (k : Int) ≤ (j : Int) := by omega
            have hn2' : (j : Int) ≤ (s.size : Int) := by omega
            obtain ⟨i0, hi, hz0, hz1, hz2⟩ := info_parts info_pc
            have hown := hO1.out
            unfold OwnP at hown
            rw [Hm'.out] at hown
            have hne : (Value.slice A m vc).ownBlock ≠ some b := fun e => by have := (World.ownsRow.lt hown _ e).1; omega
            have hne1 : (Value.slice A m vc).ownBlock ≠ some (b + 1) := fun e => by have := (World.ownsRow.lt hown _ e).1; omega
            have hne2 : (Value.slice A m vc).ownBlock ≠ some (b + 2) := fun e => by have := (World.ownsRow.lt hown _ e).1; omega
            have hbs : b + 3 ≤ w1.heap.size := by have := hS1.out.2.2.lt; omega
            have c0a : (w1.alloc (.cells #[.int .i64 kd, .string (s.extract k j), .int .i64 k] 28)).cell? ⟨b, 0, none⟩ = some (.slice A m vc) := (World.cell?_alloc_lt _ _ _ (by show b < _; omega)).trans c0
            refine wp_region_noPanic ?_
            go_region_law
              ((refine step_append_lies _ (by rfl) _ _ _ (by rfl) (b + 3) 28 i0 _ 3 32 Try.underlying23 hi hz0 hz1 hz2 rfl (by omega) (.slice A m vc) m (pcCells acc) (by rfl) ((hown.alloc _).drew)
                  ⟨w1.heap.size, 0, none⟩ 1 1 [.int .i64 kd, .string (s.extract k j), .int .i64 k] (by rfl) (by rfl) (World.news_of_block (cs := #[.int .i64 kd, .string (s.extract k j), .int .i64 k]) (t := 28) (fr := (0, 0)) (heap_alloc_new w1 _)) (by simp [Value.oneCell'])
                  (by omega) (by unfold maxLen; omega) (by omega) (by simp; omega) (w1.heap.size + 1) (by simp) ?_; intro gg cap w3 hown3 hgrow hat hlt3
                have e0 : w3.cell? ⟨b, 0, none⟩ = some (.slice A m vc) := ((hgrow.cell_far _ (by simp; omega) (Ne.symm hne)).trans ((cell_new _ _ ⟨b, 0, none⟩ (by show b < _; omega)).trans c0))
                have e1 : w3.frozen? ⟨b, 0, none⟩ = false := (hgrow.frozen_far _ (by simp; omega) (Ne.symm hne)).trans ((frozen_new _ _ ⟨b, 0, none⟩ (by show b < _; omega)).trans f0)))
            all_goals
              refine NoPanic.normal ?_
              have hS3 : St w3 b (.slice A m vc) k 0 := St.grown (St.drew (St.alloc hS1.out _)) hgrow (fun e => hne e.symm) (fun e => hne1 e.symm) (fun e => hne2 e.symm)
              have hS4 := hid (hS3.put (.slice (some ⟨gg, 0, none⟩) (m + 1) cap))
              have d1 := hS4.out.c1
              have g1 : (w3.setCell ⟨b, 0, none⟩ (.slice (some ⟨gg, 0, none⟩) (m + 1) cap)).frozen? ⟨b + 1, 0, none⟩ = false := hS4.out.2.1.frozen 0
              have HB : Hid (Below b w w3) := hid (((hbw1.alloc (by omega) _).drew).grown hgrow (by simp; omega) (fun g e => by have := (World.ownsRow.lt hown _ e).1; omega))
              have HO3 := hid (ownsRow_setCell_below (ownsRow_setCell_below hown3 (a := ⟨b, 0, none⟩) (by show b < b + 3; omega) (.slice (some ⟨gg, 0, none⟩) (m + 1) cap)) (a := ⟨b + 1, 0, none⟩) (by show b + 1 < b + 3; omega) (.int .i64 j))
              have HE : Hid (pcsT s.data.toList 0 [] = pcsT (s.data.toList.drop j) j (acc ++ [⟨(oneP (s.data.toList.drop k)).1, (s.data.toList.drop k).take q, k⟩])) := hid (by
                have h1 := pcsT_some (bOf n) (s.data.toList.drop (k + 1)) k q acc Hk.out (by rw [← Hd.out]; exact Ho.out) (by rw [Hm'.out]; exact hm4)
                rw [← Hd.out, List.drop_drop, Hj.out] at h1
                rw [hp.out, h1])
              have HX : Hid ((⟨((s.data.toList.drop k).take q).toArray⟩ : ByteArray) = s.extract k j) := hid (by
                cases hx : s.extract k j with
                | mk d =>
                  have h1 := congrArg (fun z => z.data.toList) hx
                  simp only at h1
                  rw [data_extract, List.drop_take, show j - k = q by have := Hj.out; omega] at h1
                  rw [h1])
              clear c0 c1 f0 f1 hown hown3 hgrow hat hlt3 hi hz0 hz1 hz2 hS3
              go_wp2
              go_roundg (s.size - j)
              case measure => omega
              case rel =>
                refine ⟨j, acc ++ [⟨(oneP (s.data.toList.drop k)).1, (s.data.toList.drop k).take q, k⟩], .slice (some ⟨gg, 0, none⟩) (m + 1) cap, hjs, rfl, by rw [List.length_append, Hm'.out]; simp; omega, hid (hS4.out.at_ j), hid ?_, hid HE.out, (HB.out.setCell (Nat.le_refl _) _).setCell (by show b ≤ b + 1; omega) _⟩
                unfold OwnP
                rw [pcCells_snoc, List.length_append, Hm'.out]
                have h9 := HO3.out
                unfold Pc.cells
                rw [HX.out, ← hkd.out]
                exact h9
          · have HE : Hid (pcsT s.data.toList 0 [] = ([], k, 3)) := hid (by rw [hp.out, Hd.out]; exact pcsT_full _ _ _ q _ Hk.out (by rw [← Hd.out]; exact Ho.out) (by rw [Hm'.out]; exact hm4))
            have hm4b : decide ((m : Int) < 4096) = false := decide_eq_false (by omega)
            go_wp2_with fail
            refine (need_ok _ _ _).mono ?_
            rintro e w2 ⟨rfl, rfl⟩
            go_wp2_with fail
            refine (need_bad _ _ _).mono ?_
            rintro e w2 ⟨rfl, rfl⟩
            go_wp2
            refine leave_panic _ _ b _ k 0 k 3 _ (by simp) (by simp) (by simp) hS1.out ?_
            intro w2 hb2
            refine ⟨none, 0, 0, k, 3, rfl, ?_, ?_, ?_, ?_, ?_⟩
            · rw [HP.out, HE.out]; exact hid rfl
            · rw [HP.out, HE.out]; exact hid rfl
            · rw [HP.out, HE.out]; exact hid rfl
            · rw [HP.out, HE.out]; exact hid (OwnP.nil _ _)
            · rw [Hb.out]; exact hbw1.trans hb2
    · obtain rfl : k = s.size := by omega
      have c2 := hS.out.c2
      have f0 : wr.frozen? ⟨b, 0, none⟩ = false := hS.out.1.frozen 0
      have f2 : wr.frozen? ⟨b + 2, 0, none⟩ = false := hS.out.2.2.frozen 0
      have HE : Hid (pcsT s.data.toList 0 [] = (acc, s.size, 0)) := hid (by rw [hp.out, List.drop_of_length_le (by rw [Hlen.out]; exact Nat.le_refl _), pcsT_nil])
      have HS4 := hid (((hS.out.put (.slice A m vc)).at_ s.size).err 0)
      have HO4 := hid (ownsRow_setCell_below (ownsRow_setCell_below (ownsRow_setCell_below hO.out (a := ⟨b, 0, none⟩) (by show b < b + 3; omega) (.slice A m vc)) (a := ⟨b + 1, 0, none⟩) (by show b + 1 < b + 3; omega) (.int .i64 s.size)) (a := ⟨b + 2, 0, none⟩) (by show b + 2 < b + 3; omega) (.int .i64 0))
      go_wp2_with fail
      go_region
      all_goals
        go_wp2
        refine leave_idle _ _ b _ s.size 0 _ (by simp) (by simp) (by simp) HS4.out ?_
        intro w5 hb5
        have HO5 := (OwnP.keep (l := acc) (by exact HO4.out) hb5)
        refine ⟨A, m, vc, s.size, 0, rfl, ?_, ?_, ?_, ?_, ?_⟩
        · rw [HP.out, HE.out]; exact hid Hm'.out
        · rw [HP.out, HE.out]; exact hid rfl
        · rw [HP.out, HE.out]; exact hid rfl
        · rw [HP.out, HE.out, Hb.out]; exact hid (HO5.less (by omega))
        · rw [Hb.out]
          exact ((((hbw.setCell (Nat.le_refl _) _).setCell (by show b ≤ b + 1; omega) _).setCell (by show b ≤ b + 2; omega) _).drew).trans (hb5.mono (by have := hS.out.1.lt; simp [World.setCell]; omega))

theorem pieces_any (s : ByteArray) (w : World) (hs : s.size ≤ 1048600) (hm : MaxAt w) :
    Calls Try.prog 8 #[.string s] w (RPcs w (pieces s.data.toList)) := by
  by_cases hl : s.size ≤ 65536
  · exact pieces_short s w hl hm
  · exact pieces_long s w hs hl
end Go.Proofs.Ytkfijdccemblmaa
