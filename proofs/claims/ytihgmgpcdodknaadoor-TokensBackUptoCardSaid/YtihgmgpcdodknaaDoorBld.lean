/- (*strings.Builder): WriteString, WriteByte, WriteRune, String, Len over a builder of the call's own, where octets lie between the builder and its buffer. (The shelf does not lay them at this dump: copyCheck's panic is refused by the loader; the walks do not come there.) -/
import Derived.Test.YtihgmgpcdodknaaDoorBuf
import Derived.Test.YtihgmgpcdodknaaDoorShelf
import Derived.Lib.Builder
import Derived.Laws.Externs
import Derived.RangeFuncWrites
set_option linter.unusedVariables false
namespace Go.Proofs.YtihgmgpcdodknaaDoor
open Go.RowKit

/-- below D, but for block b, the world is as it was -/
structure BelowX (b D : Nat) (w w' : World) : Prop where
  os : w'.os = w.os
  tape : w'.tape = w.tape
  output : w'.output = w.output
  size : w.heap.size ≤ w'.heap.size
  block : ∀ k, k < D → k ≠ b → w'.heap[k]? = w.heap[k]?
theorem BelowX.refl (b D : Nat) (w : World) : BelowX b D w w := ⟨rfl, rfl, rfl, Nat.le_refl _, fun _ _ _ => rfl⟩
theorem BelowX.trans {b D : Nat} {w w1 w2 : World} (h : BelowX b D w w1) (k : BelowX b D w1 w2) : BelowX b D w w2 :=
  ⟨k.os.trans h.os, k.tape.trans h.tape, k.output.trans h.output, Nat.le_trans h.size k.size, fun i hi hb => (k.block i hi hb).trans (h.block i hi hb)⟩
theorem BelowX.of {b D : Nat} {w w' : World} (h : Below D w w') : BelowX b D w w' := ⟨h.os, h.tape, h.output, h.size, fun k hk _ => h.block k hk⟩
theorem BelowX.mono {b D D' : Nat} {w w' : World} (h : BelowX b D w w') (hD : D' ≤ D) : BelowX b D' w w' := ⟨h.os, h.tape, h.output, h.size, fun k hk hb => h.block k (by omega) hb⟩
theorem BelowX.below {b D : Nat} {w w' : World} (h : BelowX b D w w') (hD : b ≤ D) : Below b w w' := ⟨h.os, h.tape, h.output, h.size, fun k hk => h.block k (by omega) (by omega)⟩
theorem BelowX.setCell {b D : Nat} {w0 w : World} (h : BelowX b D w0 w) {p : Addr} (hp : p.block = b ∨ D ≤ p.block) (u : Value) : BelowX b D w0 (w.setCell p u) :=
  h.trans ⟨rfl, rfl, rfl, by simp [World.setCell], fun k hk hb => Below.heap_setCell _ _ _ _ (by omega)⟩
theorem BelowX.grown {b D : Nat} {w0 w w' : World} {row : Option Nat} (h : BelowX b D w0 w) (hg : w.grownBy w' row) (hD : D ≤ w.heap.size) (hr : ∀ k, row = some k → D ≤ k) : BelowX b D w0 w' :=
  h.trans ⟨hg.os, hg.tape, hg.output, hg.size, fun k hk _ => hg.block k (by omega) (fun e => by have := hr k e.symm; omega)⟩
theorem BytesIn.keepX {w w' : World} {B b D : Nat} {l : List UInt8} (h : BytesIn w B l) (hb : BelowX b D w w') (hB : B < D) (hne : B ≠ b) : BytesIn w' B l := fun j hj => by
  rw [World.cell?_of_block (w := w) (hb.block B hB hne)]; exact h j hj

/-- block b is a builder that holds l, its buffer from D on -/
def Bld (b D : Nat) (l : List UInt8) (w : World) : Prop :=
  b < D ∧ D ≤ w.heap.size ∧ ∃ p v, w.heap[b]? = some (.cells #[p, v] 57 (0, 0)) ∧ (p = .pointer none ∨ p = .pointer (some ⟨b, 0, none⟩)) ∧ OwnB w D v l
theorem Bld.fresh {w : World} {b D : Nat} (h : w.heap[b]? = some (.cells #[.pointer none, .slice none 0 0] 57 (0, 0))) (hb : b < D) (hD : D ≤ w.heap.size) : Bld b D [] w :=
  ⟨hb, hD, _, _, h, .inl rfl, OwnB.nil _ _⟩
theorem Bld.new (w : World) : Bld w.heap.size (w.heap.size + 1) [] (w.alloc (.cells #[.pointer none, .slice none 0 0] 57)) :=
  Bld.fresh (heap_alloc_new w _) (by omega) (by simp)
theorem Bld.keep {b D : Nat} {l : List UInt8} {w w' : World} (h : Bld b D l w) (hb : Below w.heap.size w w') : Bld b D l w' := by
  obtain ⟨h1, h2, p, v, h3, h4, h5⟩ := h
  exact ⟨h1, Nat.le_trans h2 hb.size, p, v, by rw [hb.block b (by omega)]; exact h3, h4, h5.keep hb⟩
theorem Bld.lt {b D : Nat} {l : List UInt8} {w : World} (h : Bld b D l w) : b < w.heap.size := by have := h.1; have := h.2.1; omega
theorem Bld.is {b D : Nat} {l : List UInt8} {w : World} (h : Bld b D l w) : Lib.IsBuilder 57 5 b b (Lib.byteCells l) w := by
  obtain ⟨h1, h2, p, v, h3, h4, h5⟩ := h
  have hne : v.ownBlock ≠ some b := fun e => by have := h5.base b e; omega
  have ho : w.ownsRow b 5 1 v (Lib.byteCells l).length (Lib.byteCells l) := by
    rw [Lib.byteCells_length]
    obtain ⟨a1, a2⟩ := h5
    refine ⟨a1, ?_⟩
    rcases a2 with a2 | ⟨g, cap, cur, hv, hg, r⟩
    · exact .inl a2
    · exact .inr ⟨g, cap, cur, hv, by omega, r⟩
  rcases h4 with rfl | rfl
  · exact .inl ⟨Nat.le_refl _, v, h3, ho, hne⟩
  · exact .inr ⟨Nat.le_refl _, v, h3, ho, hne⟩

set_option maxHeartbeats 1000000 in
set_option maxRecDepth 100000 in
theorem copyCheck_used (b : Nat) (w : World) (h0 : w.cell? ⟨b, 0, none⟩ = some (.pointer (some ⟨b, 0, none⟩))) :
    Calls Tryd.prog 89 #[.pointer (some ⟨b, 0, none⟩)] w fun e w' => e = .returned (.tuple #[]) ∧ w' = w := by
  obtain ⟨j, hj, _⟩ := Option.map_eq_some_iff.1 (show (Tryd.prog.info? 57).map (·.size) = some 2 by kernel_rfl)
  go_enter Tryd.func89, Tryd.ntmps89
  go_wp2
  rw [Lib.run_neq_ptr_same w _ Tryd.underlying55 hj]
  go_wp2
  go_end0
  exact ⟨rfl, rfl⟩

set_option maxHeartbeats 1000000 in
set_option maxRecDepth 100000 in
theorem copyCheck_fresh (b : Nat) (w : World) (h0 : w.cell? ⟨b, 0, none⟩ = some (.pointer none)) (hsh : w.shape? b = some (57, 2)) (hfz : w.frozen? ⟨b, 0, none⟩ = false) :
    Calls Tryd.prog 89 #[.pointer (some ⟨b, 0, none⟩)] w fun e w' => e = .returned (.tuple #[]) ∧ w' = w.setCell ⟨b, 0, none⟩ (.pointer (some ⟨b, 0, none⟩)) := by
  obtain ⟨j, hj, hjs⟩ := Option.map_eq_some_iff.1 (show (Tryd.prog.info? 57).map (·.size) = some 2 by kernel_rfl)
  go_enter Tryd.func89, Tryd.ntmps89
  go_wp2
  rw [Lib.run_to_unsafe w ⟨b, 0, none⟩ Tryd.underlying55 Tryd.underlying117 hj (by rw [hjs]; decide) hsh (Nat.zero_lt_succ 1)]
  simp only [Result.andThen]
  rw [Oper.upon_value]
  go_wp2
  rw [run_callFunc_extern Tryd.func106 (by kernel_rfl) (by kernel_rfl) (by kernel_rfl) (e := Extern.AbiNoEscape.same) (by kernel_rfl)]
  rw [Lib.run_noEscape]
  simp only [Result.andThen]
  rw [Oper.upon_value]
  go_wp2
  rw [Lib.run_from_unsafe w ⟨b, 0, none⟩ Tryd.underlying117 Tryd.underlying55 hj hsh (by kernel_rfl)]
  simp only [Result.andThen]
  rw [Oper.upon_value]
  go_wp2
  go_end0
  exact ⟨rfl, rfl⟩

/-- behind copyCheck 'addr' holds the builder's own address -/
theorem copyCheck_any (b D : Nat) (l : List UInt8) (w : World) (h : Bld b D l w) :
    Calls Tryd.prog 89 #[.pointer (some ⟨b, 0, none⟩)] w fun e w' => e = .returned (.tuple #[]) ∧ b < D ∧ D ≤ w'.heap.size ∧ (∃ v, w'.heap[b]? = some (.cells #[.pointer (some ⟨b, 0, none⟩), v] 57 (0, 0)) ∧ OwnB w' D v l) ∧ BelowX b D w w' ∧ KeepsOthers w w' := by
  obtain ⟨h1, h2, p, v, h3, h4, h5⟩ := h
  have c0 : w.cell? ⟨b, 0, none⟩ = some p := by rw [Lib.cell_of_heap h3]; rfl
  rcases h4 with rfl | rfl
  · refine (copyCheck_fresh b w c0 (by simp [World.shape?, h3]) (Lib.frozen_of_heap h3 0)).mono ?_
    rintro e w' ⟨rfl, rfl⟩
    refine ⟨rfl, h1, by simpa [World.setCell] using h2, ⟨v, ?_, ownsRow_setCell_below h5 h1 _⟩, (BelowX.refl b D w).setCell (.inl rfl) _, KeepsOthers.setCell _ _ _⟩
    simp [World.setCell, Array.getElem?_modify, h3]
  · refine (copyCheck_used b w c0).mono ?_
    rintro e w' ⟨rfl, rfl⟩
    exact ⟨rfl, h1, h2, ⟨v, h3, h5⟩, BelowX.refl b D _, KeepsOthers.refl _⟩

/-- a new buffer laid into 'buf' -/
theorem Bld.put {b D : Nat} {l l' : List UInt8} {w w' : World} {v v' : Value} (hb : b < D) (hD : D ≤ w.heap.size) (h3 : w.heap[b]? = some (.cells #[.pointer (some ⟨b, 0, none⟩), v] 57 (0, 0))) (h : OwnB w' D v' l') (hw : Below D w w') :
    Bld b D l' (w'.setCell ⟨b, 1, none⟩ v') := by
  have hs := hw.size
  refine ⟨hb, by simp [World.setCell]; omega, _, v', ?_, .inr rfl, ownsRow_setCell_below h hb _⟩
  simp [World.setCell, Array.getElem?_modify, hw.block b hb, h3]

set_option maxHeartbeats 2000000 in
set_option maxRecDepth 100000 in
theorem writeString_any (b D : Nat) (l : List UInt8) (s : ByteArray) (w : World) (h : Bld b D l w) (hlen : l.length + s.size ≤ 1099511627776) :
    Calls Tryd.prog 65 #[.pointer (some ⟨b, 0, none⟩), .string s] w fun e w' => e = .returned (.tuple #[.int .i64 s.size, .nilIface]) ∧ Bld b D (l ++ s.data.toList) w' ∧ BelowX b D w w' := by
  have HL := hid hlen
  go_enter Tryd.func65, Tryd.ntmps65
  go_wp2_with (go_at_call 89; refine (copyCheck_any b D l _ h).mono ?_)
  rintro e w1 ⟨rfl, hb, hD, ⟨v, h3, hown⟩, hb1, hko⟩
  have c1 : w1.cell? ⟨b, 1, none⟩ = some v := by rw [Lib.cell_of_heap h3]; rfl
  go_wp2_with (at_builtin; refine wpl_pushs1 rfl _ _ rfl D v l _ hown rfl s rfl HL.out hD ?_)
  intro v' w2 hown' hb2
  have h32 : w2.heap[b]? = some (.cells #[.pointer (some ⟨b, 0, none⟩), v] 57 (0, 0)) := by rw [hb2.block b hb]; exact h3
  have d1 : w2.cell? ⟨b, 1, none⟩ = some v := by rw [Lib.cell_of_heap h32]; rfl
  have f1 : w2.frozen? ⟨b, 1, none⟩ = false := Lib.frozen_of_heap h32 1
  have HP := hid (Bld.put (l := l) hb hD h3 hown' hb2)
  obtain ⟨ad, cap, rfl⟩ := hown'.shape
  clear hown'
  rw [List.length_append, len_data] at HP
  rw [List.length_append, len_data]
  go_wp2
  go_ret2
  exact ⟨rfl, HP.out, (hb1.trans (BelowX.of hb2)).setCell (.inl rfl) _⟩

set_option maxHeartbeats 2000000 in
set_option maxRecDepth 100000 in
theorem writeByte_any (b D : Nat) (l : List UInt8) (c : Int) (w : World) (h : Bld b D l w) (h0 : 0 ≤ c) (h1 : c ≤ 255) (hlen : l.length + 1 ≤ 1099511627776) :
   Calls Tryd.prog 66 #[.pointer (some ⟨b, 0, none⟩), .int .u8 c] w fun e w' => e = .returned .nilIface ∧ Bld b D (l ++ [bOf c]) w' ∧ BelowX b D w w' := by
 have HL := hid hlen
 go_enter Tryd.func66, Tryd.ntmps66
 go_wp2_with (go_at_call 89; refine (copyCheck_any b D l _ h).mono ?_)
 rintro e w1 ⟨rfl, hb, hD, ⟨v, h3, hown⟩, hb1, hko⟩
 have c1 : w1.cell? ⟨b, 1, none⟩ = some v := by rw [Lib.cell_of_heap h3]; rfl
 go_wp2_with (at_builtin; refine wpl_push1 rfl _ _ rfl D v l c _ hown rfl rfl h0 h1 HL.out hD ?_)
 intro v' w2 hown' hb2
 have h32 : w2.heap[b]? = some (.cells #[.pointer (some ⟨b, 0, none⟩), v] 57 (0, 0)) := by rw [hb2.block b hb]; exact h3
 have d1 : w2.cell? ⟨b, 1, none⟩ = some v := by rw [Lib.cell_of_heap h32]; rfl
 have f1 : w2.frozen? ⟨b, 1, none⟩ = false := Lib.frozen_of_heap h32 1
 have HP := hid (Bld.put (l := l) hb hD h3 hown' hb2)
 obtain ⟨ad, cap, rfl⟩ := hown'.shape
 clear hown'
 rw [List.length_append, List.length_singleton] at HP
 rw [List.length_append, List.length_singleton]
 go_wp2
 go_ret
 exact ⟨rfl, HP.out, (hb1.trans (BelowX.of hb2)).setCell (.inl rfl) _⟩

/-- String -/
theorem bstr_any (b D : Nat) (l : List UInt8) (w : World) (h : Bld b D l w) :
    Calls Tryd.prog 49 #[.pointer (some ⟨b, 0, none⟩)] w fun e w' => e = .returned (.string ⟨l.toArray⟩) ∧ Below b w w' :=
  Tryd.Builder_String_any b b l w h.is (Nat.le_of_lt h.lt)
/-- Len -/
theorem blen_any (b D : Nat) (l : List UInt8) (w : World) (h : Bld b D l w) :
    Calls Tryd.prog 48 #[.pointer (some ⟨b, 0, none⟩)] w fun e w' => e = .returned (.int .i64 (l.length : Int)) ∧ w' = w := by
  have := Tryd.Builder_Len b b (Lib.byteCells l) w h.is
  rwa [Lib.byteCells_length] at this
end Go.Proofs.YtihgmgpcdodknaaDoor
