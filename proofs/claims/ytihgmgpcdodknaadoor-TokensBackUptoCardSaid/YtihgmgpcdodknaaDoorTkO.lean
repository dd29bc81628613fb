/- A slice of tokens that came in, opened to its cells. -/
import Derived.Test.YtihgmgpcdodknaaDoorSam
import Derived.Test.YtihgmgpcdodknaaDoorLaw
import Derived.Deep.Slices
import Derived.Deep.Fields
import Derived.ChangeSame
import Derived.OpenShut
set_option linter.unusedVariables false
namespace Go.Proofs.YtihgmgpcdodknaaDoor
open Go.ChangeShapes Go.WideShapes Go.Deep Go.RowKit
section
variable {H : Type} {enc : TypeId × Value → H} {P : Program} {w : World} {base : Nat} {spare : Nat → Bool} {held : Bool}
theorem open_slice_fields {t e : TypeId} {fs : Array Field} {fuel : Nat} {cs : List Value} {x : DataW H × List MemPlace} (ht : P.underlying t = some (.slice e)) (he : P.underlying e = some (.struct fs))
    (hone : oneCellFields P fs = true) (hC : P.cellsOf e = fs.size) (h : DataW.trod enc P w base spare held fuel t cs = some x) :
    (cs = [.slice none 0 0] ∧ x = (.nil, [])) ∨
    ∃ (a : Addr) (len cap m : Nat) (D : Nat → DataW H) (Pl : Nat → List MemPlace), cs = [.slice (some a) len cap] ∧ base ≤ a.block ∧ len ≤ cap ∧ cap ≤ maxLen ∧ m = (if spare a.block then cap else len) ∧
      x = (.slice ((List.range len).map D) ((List.range (m - len)).map fun j => D (len + j)), MemPlace.row a (m * fs.size) ++ (List.range m).flatMap Pl) ∧
      ∀ i, i < m → ∃ (ys : List (DataW H × List MemPlace)) (n : Nat), D i = .agg (ys.map (·.1)) ∧ Pl i = ys.flatMap (·.2) ∧ ys.length = fs.size ∧
        ∀ (j : Nat) (f : Field), fs[j]? = some f → ∃ (v : Value) (y : DataW H × List MemPlace), w.cell? (a.add (i * fs.size + j)) = some v ∧ ys[j]? = some y ∧ DataW.trod enc P w base spare held n f.type [v] = some y := by
  rcases open_slice ht h with h0 | ⟨a, len, cap, m, n, D, Pl, hcs, hb, hl, hm, hmm, hx, hi⟩
  · exact .inl h0
  · refine .inr ⟨a, len, cap, m, D, Pl, hcs, hb, hl, hm, hmm, by rw [hC] at hx; exact hx, fun i him => ?_⟩
    obtain ⟨cs', hc, ht'⟩ := hi i him
    rw [hC] at hc
    obtain ⟨ys, n', hn', hy, hlen, hyl, hf⟩ := DataW.trod_struct he ht'
    obtain ⟨_, hcl, hat⟩ := World.cells?_some hc
    simp only [Prod.mk.injEq] at hy
    refine ⟨ys, n', hy.1, hy.2, hyl, fun j f hj => ?_⟩
    obtain ⟨ho, hk⟩ := hone_of hone j f hj
    have hjl : j < fs.size := (Array.getElem?_eq_some_iff.1 hj).1
    have hcell := hat j hjl
    have hv : cs'[j]? = some (cs'[j]'(by omega)) := List.getElem?_eq_getElem (by omega)
    have h1 := hf j f hj
    rw [ho, hk] at h1
    have hone' : (cs'.drop j).take 1 = [cs'[j]'(by omega)] := by
      rw [List.drop_eq_getElem_cons (by omega)]
      rfl
    rw [hone'] at h1
    have hys : ys[j]? = some (ys[j]'(by omega)) := List.getElem?_eq_getElem (by omega)
    refine ⟨_, _, ?_, hys, h1.trans hys⟩
    rw [← Go.Deep.add_add, hcell, hv]
end

theorem cell_lt {w : World} {p : Addr} {v : Value} (h : w.cell? p = some v) : p.block < w.heap.size := by
  rcases Nat.lt_or_ge p.block w.heap.size with h1 | h1
  · exact h1
  · exfalso
    have : w.heap[p.block]? = none := Array.getElem?_eq_none h1
    simp [World.cell?, this] at h
theorem list_of {α : Type} {n : Nat} {P : Nat → α → Prop} (h : ∀ i, i < n → ∃ a, P i a) : ∃ l : List α, l.length = n ∧ ∀ i (hi : i < l.length), P i l[i] := by
  refine ⟨List.ofFn fun i : Fin n => (h i.val i.isLt).choose, by simp, fun i hi => ?_⟩
  have hi' : i < n := by simpa using hi
  rw [List.getElem_ofFn]
  exact (h i hi').choose_spec
theorem bulk_pos {H : Type} (d : DataW H) : 1 ≤ Rows.uptoBulk d := by
  cases d with
  | lit l => cases l <;> simp [Rows.uptoBulk]
  | _ => simp [Rows.uptoBulk]
theorem bulkAll_len {H : Type} : ∀ l : List (DataW H), l.length ≤ Rows.uptoBulkAll l
  | [] => by simp [Rows.uptoBulkAll]
  | d :: r => by
    have h1 := bulk_pos d
    have h2 := bulkAll_len r
    simp only [List.length_cons, Rows.uptoBulkAll]; omega

theorem bulkAll_mem {H : Type} {d : DataW H} : ∀ {l : List (DataW H)}, d ∈ l → Rows.uptoBulk d ≤ Rows.uptoBulkAll l
  | [], h => by simp at h
  | e :: r, h => by
    rcases List.mem_cons.1 h with rfl | h
    · simp only [Rows.uptoBulkAll]; omega
    · have := bulkAll_mem h
      simp only [Rows.uptoBulkAll]; omega
theorem bs_self (s : ByteArray) : bs s.data.toList = s := (bs_of rfl).symm
theorem attCells_len (l : List Att) : (attCells l).length = l.length * 2 := by
  induction l with
  | nil => rfl
  | cons a r ih =>
    have h : attCells (a :: r) = [.string (bs a.1), .string (bs a.2)] ++ attCells r := rfl
    rw [h, List.length_append, ih, List.length_cons]; simp; omega
def tvCells (l : List (Tk × Value)) : List Value := l.flatMap fun t => [.int .i64 t.1.k, .string (bs t.1.n), .string (bs t.1.x), t.2, .bool t.1.c]
theorem tvCells_len (l : List (Tk × Value)) : (tvCells l).length = l.length * 5 := by
  induction l with
  | nil => rfl
  | cons a r ih =>
    have h : tvCells (a :: r) = [.int .i64 a.1.k, .string (bs a.1.n), .string (bs a.1.x), a.2, .bool a.1.c] ++ tvCells r := rfl
    rw [h, List.length_append, ih, List.length_cons]; simp; omega
theorem tvCells_get : ∀ (l : List (Tk × Value)) (i j : Nat) (hi : i < l.length), j < 5 → (tvCells l)[i * 5 + j]? = ([.int .i64 l[i].1.k, .string (bs l[i].1.n), .string (bs l[i].1.x), l[i].2, .bool l[i].1.c] : List Value)[j]?
  | [], _, _, hi, _ => absurd hi (by simp)
  | a :: r, 0, j, _, hj => by
    have h : tvCells (a :: r) = [.int .i64 a.1.k, .string (bs a.1.n), .string (bs a.1.x), a.2, .bool a.1.c] ++ tvCells r := rfl
    rw [h, Nat.zero_mul, Nat.zero_add, List.getElem?_append_left (by simpa using hj)]
    rfl
  | a :: r, i + 1, j, hi, hj => by
    have h : tvCells (a :: r) = [.int .i64 a.1.k, .string (bs a.1.n), .string (bs a.1.x), a.2, .bool a.1.c] ++ tvCells r := rfl
    rw [h, List.getElem?_append_right (by simp; omega), show (i + 1) * 5 + j - ([.int .i64 a.1.k, .string (bs a.1.n), .string (bs a.1.x), a.2, .bool a.1.c] : List Value).length = i * 5 + j from by simp; omega]
    exact tvCells_get r i j (by simpa using hi) hj
theorem tkR_of {w : World} {B : Nat} : ∀ (l : List (Tk × Value)), (∀ t ∈ l, AtR w B t.2 t.1.ats) → TkR w B (tvCells l) (l.map (·.1))
  | [], _ => rfl
  | a :: r, h => ⟨a.2, tvCells r, rfl, h a (by simp), tkR_of r fun t ht => h t (by simp [ht])⟩

section
variable {H : Type} {enc : TypeId × Value → H} {w : World}
theorem open_ats {fuel : Nat} {v : Value} {x : DataW H × List MemPlace} (h : DataW.trod enc Tryd.prog w 0 (fun _ => true) true fuel 51 [v] = some x) :
    ∃ l : List Att, AtR w w.heap.size v l ∧ l.length ≤ Rows.uptoBulk x.1 := by
  rcases open_slice_fields Tryd.underlying51 Tryd.underlying95 (by kernel_rfl) (by kernel_rfl) h with ⟨h1, h2⟩ | ⟨a, len, c, m, D, Pl, h1, hb, hlc, hcm, hm, hx, hi⟩
  · obtain rfl : v = .slice none 0 0 := by simpa using h1
    exact ⟨[], ⟨none, 0, rfl, Reads.none_⟩, Nat.zero_le _⟩
  · obtain rfl : v = .slice (some a) len c := by simpa using h1
    have hmc : len ≤ m := by rw [hm]; split <;> omega
    have hex : ∀ i, i < len → ∃ p : Att, w.cell? (a.add (i * 2)) = some (.string (bs p.1)) ∧ w.cell? (a.add (i * 2 + 1)) = some (.string (bs p.2)) := by
      intro i hin
      obtain ⟨ys, n', hD, hP, hyl, hfl⟩ := hi i (by omega)
      obtain ⟨v0, y0, c0, _, t0⟩ := hfl 0 _ rfl
      obtain ⟨v1, y1, c1, _, t1⟩ := hfl 1 _ rfl
      obtain ⟨s0, e0, _, w0⟩ := DataW.trod_string Tryd.underlying9 t0
      obtain ⟨s1, e1, _, w1⟩ := DataW.trod_string Tryd.underlying9 t1
      obtain rfl : v0 = .string s0 := by simpa using e0
      obtain rfl : v1 = .string s1 := by simpa using e1
      exact ⟨(s0.data.toList, s1.data.toList), by rw [bs_self]; exact c0, by rw [bs_self]; exact c1⟩
    obtain ⟨l, hl, hall⟩ := list_of hex
    refine ⟨l, ⟨some a, c, by rw [hl], ⟨by rw [attCells_len], fun hn => ⟨a, rfl, ?_, ?_⟩⟩⟩, ?_⟩
    · have := cell_lt (hall 0 hn).1
      rw [block_of_add] at this
      exact this
    · intro j u hu
      have hj : j < l.length * 2 := by
        rw [← attCells_len]
        exact (List.getElem?_eq_some_iff.1 hu).1
      have h1 : j / 2 < l.length := by omega
      have hg := attCells_get l (j / 2) h1
      rcases Nat.mod_two_eq_zero_or_one j with e | e
      · have e2 : j / 2 * 2 = j := by omega
        rw [e2, hu] at hg
        have := (hall (j / 2) h1).1
        rw [e2, ← hg.1] at this
        exact this
      · have e2 : j / 2 * 2 + 1 = j := by omega
        rw [e2, hu] at hg
        have := (hall (j / 2) h1).2
        rw [e2, ← hg.2] at this
        exact this
    · rw [hx, hl]
      have := bulkAll_len ((List.range len).map D)
      rw [List.length_map, List.length_range] at this
      simp only [Rows.uptoBulk]; omega
set_option maxRecDepth 100000 in
theorem open_tks {r : Reach} {b0 : Nat} {v : Value} {d : DataW H} {ps : List MemPlace} (hval : Value.okWide Tryd.prog w r b0 22 v) (hd : DataW.Trod enc Tryd.prog w 0 (fun _ => true) true 22 v d ps) :
    ∃ (A : Option Addr) (n cap : Nat) (L : List Tk), v = .slice A n cap ∧ L.length = n ∧ TkA w w.heap.size (.slice A n cap) L ∧ (∀ t ∈ L, t.ats.length ≤ Rows.uptoBulk d) ∧ L.length ≤ Rows.uptoBulk d := by
  obtain ⟨A, n, cap, rfl⟩ := okWide_slice Tryd.underlying22 hval
  obtain ⟨fuel, hf⟩ := hd
  rcases open_slice_fields Tryd.underlying22 Tryd.underlying53 (by kernel_rfl) (by kernel_rfl) hf with ⟨h1, h2⟩ | ⟨a, len, c, m, D, Pl, h1, hb, hlc, hcm, hm, hx, hi⟩
  · have h3 : Value.slice A n cap = .slice none 0 0 := by simpa [Value.cells] using h1
    injection h3 with e1 e2 e3
    subst e1 e2 e3
    exact ⟨none, 0, 0, [], rfl, rfl, ⟨none, 0, [], rfl, Reads.none_, rfl⟩, (fun t ht => by cases ht), Nat.zero_le _⟩
  · have h3 : Value.slice A n cap = .slice (some a) len c := by simpa [Value.cells] using h1
    injection h3 with e1 e2 e3
    subst e1 e2 e3
    have hmc : n ≤ m := by rw [hm]; split <;> omega
    have hex : ∀ i, i < n → ∃ p : Tk × Value, AtR w w.heap.size p.2 p.1.ats ∧ p.1.ats.length ≤ Rows.uptoBulk (D i) ∧ w.cell? (a.add (i * 5)) = some (.int .i64 p.1.k) ∧ w.cell? (a.add (i * 5 + 1)) = some (.string (bs p.1.n)) ∧ w.cell? (a.add (i * 5 + 2)) = some (.string (bs p.1.x)) ∧ w.cell? (a.add (i * 5 + 3)) = some p.2 ∧ w.cell? (a.add (i * 5 + 4)) = some (.bool p.1.c) := by
      intro i hin
      obtain ⟨ys, n', hD, hP, hyl, hfl⟩ := hi i (by omega)
      obtain ⟨v0, y0, c0, _, t0⟩ := hfl 0 _ rfl
      obtain ⟨v1, y1, c1, _, t1⟩ := hfl 1 _ rfl
      obtain ⟨v2, y2, c2, _, t2⟩ := hfl 2 _ rfl
      obtain ⟨v3, y3, c3, hy3, t3⟩ := hfl 3 _ rfl
      obtain ⟨v4, y4, c4, _, t4⟩ := hfl 4 _ rfl
      obtain ⟨n0, e0, _, w0⟩ := DataW.trod_int Tryd.underlying3 t0
      obtain ⟨s1, e1, _, w1⟩ := DataW.trod_string Tryd.underlying9 t1
      obtain ⟨s2, e2, _, w2⟩ := DataW.trod_string Tryd.underlying9 t2
      obtain ⟨b4, e4, _⟩ := DataW.trod_bool Tryd.underlying4 t4
      obtain rfl : v0 = .int .i64 n0 := by simpa using e0
      obtain rfl : v1 = .string s1 := by simpa using e1
      obtain rfl : v2 = .string s2 := by simpa using e2
      obtain rfl : v4 = .bool b4 := by simpa using e4
      obtain ⟨l, hl, hlb⟩ := open_ats t3
      refine ⟨(⟨n0, s1.data.toList, s2.data.toList, l, b4⟩, v3), hl, ?_, c0, by rw [bs_self]; exact c1, by rw [bs_self]; exact c2, c3, c4⟩
      rw [hD]
      have hmem : y3.1 ∈ ys.map (·.1) := List.mem_map.2 ⟨y3, List.mem_of_getElem? hy3, rfl⟩
      have := bulkAll_mem hmem
      simp only [Rows.uptoBulk]; omega
    obtain ⟨l, hl, hall⟩ := list_of hex
    simp only [Prod.mk.injEq] at hx
    have hmemD : ∀ i, i < n → Rows.uptoBulk (D i) ≤ Rows.uptoBulk d := by
      intro i hin
      have hmem : D i ∈ (List.range n).map D := List.mem_map.2 ⟨i, List.mem_range.2 hin, rfl⟩
      have := bulkAll_mem hmem
      rw [hx.1]
      simp only [Rows.uptoBulk]; omega
    refine ⟨some a, n, cap, l.map (·.1), rfl, by rw [List.length_map, hl], ⟨some a, cap, tvCells l, by rw [List.length_map, hl], ⟨by rw [tvCells_len, List.length_map], fun hn => ⟨a, rfl, ?_, ?_⟩⟩, tkR_of l ?_⟩, ?_, ?_⟩
    · rw [List.length_map] at hn
      have := cell_lt (hall 0 hn).2.2.1
      rw [block_of_add] at this
      exact this
    · intro j u hu
      have hj : j < l.length * 5 := by
        rw [← tvCells_len]
        exact (List.getElem?_eq_some_iff.1 hu).1
      have h1 : j / 5 < l.length := by omega
      have h2 := tvCells_get l (j / 5) (j % 5) h1 (by omega)
      have e : j / 5 * 5 + j % 5 = j := by omega
      rw [e, hu] at h2
      obtain ⟨-, -, g0, g1, g2, g3, g4⟩ := hall (j / 5) h1
      have hm5 : j % 5 < 5 := by omega
      rcases (show j % 5 = 0 ∨ j % 5 = 1 ∨ j % 5 = 2 ∨ j % 5 = 3 ∨ j % 5 = 4 by omega) with h | h | h | h | h <;> rw [h] at h2 e
      · rw [Nat.add_zero] at e; rw [e] at g0; rw [g0]; exact h2.symm
      · rw [e] at g1; rw [g1]; exact h2.symm
      · rw [e] at g2; rw [g2]; exact h2.symm
      · rw [e] at g3; rw [g3]; exact h2.symm
      · rw [e] at g4; rw [g4]; exact h2.symm
    · intro t ht
      obtain ⟨i, hi2, rfl⟩ := List.getElem_of_mem ht
      exact (hall i hi2).1
    · intro t ht
      obtain ⟨p, hp, rfl⟩ := List.mem_map.1 ht
      obtain ⟨i, hi2, rfl⟩ := List.getElem_of_mem hp
      exact Nat.le_trans (hall i hi2).2.1 (hmemD i (by omega))
    · rw [List.length_map, hl, hx.1]
      have := bulkAll_len ((List.range n).map D)
      rw [List.length_map, List.length_range] at this
      simp only [Rows.uptoBulk]; omega
end
end Go.Proofs.YtihgmgpcdodknaaDoor
