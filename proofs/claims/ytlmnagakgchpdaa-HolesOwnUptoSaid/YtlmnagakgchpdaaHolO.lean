/- A slice of holes that came in, opened to its cells. -/
import Derived.Test.YtlmnagakgchpdaaHol
import Derived.Test.YtlmnagakgchpdaaLaw
import Derived.Deep.Slices
import Derived.Deep.Fields
import Derived.ChangeSame
import Derived.OpenShut
set_option linter.unusedVariables false
namespace Go.Proofs.Ytlmnagakgchpdaa
open Go.ChangeShapes Go.WideShapes Go.Deep Go.RowKit
section
variable {H : Type} {enc : TypeId × Value → H} {P : Program} {w : World} {base : Nat} {spare : Nat → Bool} {held : Bool}
theorem open_slice_fields {t e : TypeId} {fs : Array Field} {fuel : Nat} {cs : List Value} {x : DataW H × List MemPlace} (ht : P.underlying t = some (.slice e)) (he : P.underlying e = some (.struct fs))
    (hone : oneCellFields P fs = true) (hC : P.cellsOf e = fs.size) (h : DataW.trod enc P w base spare held fuel t cs = some x) :
    (cs = [.slice none 0 0] ∧ x = (.nil, [])) ∨
    ∃ (a : Addr) (len cap m : Nat) (D : Nat → DataW H) (Pl : Nat → List MemPlace), cs = [.slice (some a) len cap] ∧ base ≤ a.block ∧ len ≤ cap ∧ cap ≤ maxLen ∧ m = (if spare a.block then cap else len) ∧
      x = (.slice ((List.range len).map D) ((List.range (m - len)).map fun j => D (len + j)), MemPlace.row a (m * fs.size) ++ (List.range m).flatMap Pl) ∧
      ∀ i, i < m → ∃ (ys : List (DataW H × List MemPlace)) (n : Nat), D i = .agg (ys.map (·.1)) ∧ Pl i = ys.flatMap (·.2) ∧ ys.length = fs.size ∧
        ∀ (j : Nat) (f : Field), fs[j]? = some f → ∃ (v : Value) (y : DataW H × List MemPlace), w.cell? (a.add (i * fs.size + j)) = some v ∧ ys[j]? = some y ∧ DataW.trod enc P w base spare held n f.type [v] = some y := by
  rcases open_slice ht h with h0 | ⟨a, len, cap, m, n, D, Pl, hcs, hb, hl, hm, hmm, hx, hi⟩
  · exact .inl h0
  · refine .inr ⟨a, len, cap, m, D, Pl, hcs, hb, hl, hm, hmm, by rw [hC] at hx; exact hx, fun i him => ?_⟩
    obtain ⟨cs', hc, ht'⟩ := hi i him
    rw [hC] at hc
    obtain ⟨ys, n', hn', hy, hlen, hyl, hf⟩ := DataW.trod_struct he ht'
    obtain ⟨_, hcl, hat⟩ := World.cells?_some hc
    simp only [Prod.mk.injEq] at hy
    refine ⟨ys, n', hy.1, hy.2, hyl, fun j f hj => ?_⟩
    obtain ⟨ho, hk⟩ := hone_of hone j f hj
    have hjl : j < fs.size := (Array.getElem?_eq_some_iff.1 hj).1
    have hcell := hat j hjl
    have hv : cs'[j]? = some (cs'[j]'(by omega)) := List.getElem?_eq_getElem (by omega)
    have h1 := hf j f hj
    rw [ho, hk] at h1
    have hone' : (cs'.drop j).take 1 = [cs'[j]'(by omega)] := by
      rw [List.drop_eq_getElem_cons (by omega)]
      rfl
    rw [hone'] at h1
    have hys : ys[j]? = some (ys[j]'(by omega)) := List.getElem?_eq_getElem (by omega)
    refine ⟨_, _, ?_, hys, h1.trans hys⟩
    rw [← Go.Deep.add_add, hcell, hv]
end

theorem cell_lt {w : World} {p : Addr} {v : Value} (h : w.cell? p = some v) : p.block < w.heap.size := by
  rcases Nat.lt_or_ge p.block w.heap.size with h1 | h1
  · exact h1
  · exfalso
    have : w.heap[p.block]? = none := Array.getElem?_eq_none h1
    simp [World.cell?, this] at h
theorem list_of {α : Type} {n : Nat} {P : Nat → α → Prop} (h : ∀ i, i < n → ∃ a, P i a) : ∃ l : List α, l.length = n ∧ ∀ i (hi : i < l.length), P i l[i] := by
  refine ⟨List.ofFn fun i : Fin n => (h i.val i.isLt).choose, by simp, fun i hi => ?_⟩
  have hi' : i < n := by simpa using hi
  rw [List.getElem_ofFn]
  exact (h i hi').choose_spec
theorem bulk_pos {H : Type} (d : DataW H) : 1 ≤ Rows.uptoBulk d := by
  cases d with
  | lit l => cases l <;> simp [Rows.uptoBulk]
  | _ => simp [Rows.uptoBulk]
theorem bulkAll_len {H : Type} : ∀ l : List (DataW H), l.length ≤ Rows.uptoBulkAll l
  | [] => by simp [Rows.uptoBulkAll]
  | d :: r => by
    have h1 := bulk_pos d
    have h2 := bulkAll_len r
    simp only [List.length_cons, Rows.uptoBulkAll]; omega

section
variable {H : Type} {enc : TypeId × Value → H} {w : World}
theorem open_hols {r : Reach} {b0 : Nat} {v : Value} {d : DataW H} {ps : List MemPlace} (hval : Value.okWide Try.prog w r b0 22 v) (hd : DataW.Trod enc Try.prog w 0 (fun _ => true) true 22 v d ps) :
    ∃ (A : Option Addr) (n cap : Nat) (hs : List Hol), v = .slice A n cap ∧ hs.length = n ∧ HolsAt w w.heap.size A hs ∧ (∀ h ∈ hs, h.fits) ∧ hs.length ≤ Rows.uptoBulk d := by
  obtain ⟨A, n, cap, rfl⟩ := okWide_slice Try.underlying22 hval
  obtain ⟨fuel, hf⟩ := hd
  rcases open_slice_fields Try.underlying22 Try.underlying31 (by kernel_rfl) (by kernel_rfl) hf with ⟨h1, h2⟩ | ⟨a, len, c, m, D, Pl, h1, hb, hlc, hcm, hm, hx, hi⟩
  · have h3 : Value.slice A n cap = .slice none 0 0 := by simpa [Value.cells] using h1
    injection h3 with e1 e2 e3
    subst e1 e2 e3
    exact ⟨none, 0, 0, [], rfl, rfl, Reads.none_, (fun h hh => by cases hh), by simp⟩
  · have h3 : Value.slice A n cap = .slice (some a) len c := by simpa [Value.cells] using h1
    injection h3 with e1 e2 e3
    subst e1 e2 e3
    have hmc : n ≤ m := by rw [hm]; split <;> omega
    have hex : ∀ i, i < n → ∃ h : Hol, h.fits ∧ ∀ j u, h.cells[j]? = some u → w.cell? (a.add (i * 4 + j)) = some u := by
      intro i hin
      obtain ⟨ys, n', hD, hP, hyl, hfl⟩ := hi i (by omega)
      obtain ⟨v0, y0, c0, _, t0⟩ := hfl 0 _ rfl
      obtain ⟨v1, y1, c1, _, t1⟩ := hfl 1 _ rfl
      obtain ⟨v2, y2, c2, _, t2⟩ := hfl 2 _ rfl
      obtain ⟨v3, y3, c3, _, t3⟩ := hfl 3 _ rfl
      obtain ⟨n0, e0, _, w0⟩ := DataW.trod_int Try.underlying3 t0
      obtain ⟨n1, e1, _, w1⟩ := DataW.trod_int Try.underlying3 t1
      obtain ⟨n2, e2, _, w2⟩ := DataW.trod_int Try.underlying3 t2
      obtain ⟨s3, e3, _, w3⟩ := DataW.trod_string Try.underlying9 t3
      obtain rfl : v0 = .int .i64 n0 := by simpa using e0
      obtain rfl : v1 = .int .i64 n1 := by simpa using e1
      obtain rfl : v2 = .int .i64 n2 := by simpa using e2
      obtain rfl : v3 = .string s3 := by simpa using e3
      refine ⟨⟨n0, n1, n2, s3⟩, ?_, ?_⟩
      · simp [Lit.wf, IntKind.min, IntKind.max, IntKind.signed, IntKind.bits] at w0 w1
        exact ⟨w0.1, w0.2, w1.1, w1.2⟩
      · intro j u hu
        have hj : j < 4 := by
          rcases Nat.lt_or_ge j 4 with h | h
          · exact h
          · rw [List.getElem?_eq_none (by simpa [Hol.cells] using h)] at hu; cases hu
        match j, hj with
        | 0, _ => obtain rfl : Value.int .i64 n0 = u := by simpa [Hol.cells] using hu
                  exact c0
        | 1, _ => obtain rfl : Value.int .i64 n1 = u := by simpa [Hol.cells] using hu
                  exact c1
        | 2, _ => obtain rfl : Value.int .i64 n2 = u := by simpa [Hol.cells] using hu
                  exact c2
        | 3, _ => obtain rfl : Value.string s3 = u := by simpa [Hol.cells] using hu
                  exact c3
    obtain ⟨hs, hl, hall⟩ := list_of hex
    refine ⟨some a, n, cap, hs, rfl, hl, ⟨holCells_len hs, fun hn => ⟨a, rfl, ?_, ?_⟩⟩, ?_, ?_⟩
    · have h0 := (hall 0 hn).2 0 (.int .i64 hs[0].f) rfl
      have := cell_lt h0
      rw [block_of_add] at this
      exact this
    · intro j u hu
      have hj : j < hs.length * 4 := by
        rw [← holCells_len]
        rcases Nat.lt_or_ge j (holCells hs).length with h | h
        · exact h
        · rw [List.getElem?_eq_none h] at hu; cases hu
      have h1 : j / 4 < hs.length := by omega
      have h2 := holCells_get hs (j / 4) (j % 4) h1 (by omega)
      have e : j / 4 * 4 + j % 4 = j := by omega
      rw [e] at h2
      have := (hall (j / 4) h1).2 (j % 4) u (by rw [← h2]; exact hu)
      rwa [e] at this
    · intro h hh
      obtain ⟨i, hi2, rfl⟩ := List.getElem_of_mem hh
      exact (hall i hi2).1
    · simp only [Prod.mk.injEq] at hx
      rw [hx.1, hl]
      have := bulkAll_len ((List.range n).map D)
      rw [List.length_map, List.length_range] at this
      simp only [Rows.uptoBulk]; omega
end
end Go.Proofs.Ytlmnagakgchpdaa
