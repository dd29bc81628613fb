/- A slice of tokens that came in, opened to its cells, with the lengths of its texts. -/
import Derived.Test.YtihgmgpcdodknaaDoorTkO
set_option linter.unusedVariables false
namespace Go.Proofs.YtihgmgpcdodknaaDoor
open Go.ChangeShapes Go.WideShapes Go.Deep Go.RowKit
def attsLen (l : List Att) : Nat := (l.map fun a => a.1.length + a.2.length).sum
def TkB (b : Nat) (t : Tk) : Prop := t.ats.length ≤ b ∧ t.n.length ≤ b ∧ t.x.length ≤ b ∧ attsLen t.ats ≤ b
theorem TkB.up {b b' : Nat} {t : Tk} (h : TkB b t) (hb : b ≤ b') : TkB b' t := ⟨Nat.le_trans h.1 hb, Nat.le_trans h.2.1 hb, Nat.le_trans h.2.2.1 hb, Nat.le_trans h.2.2.2 hb⟩
theorem attsLen_cons (a : Att) (l : List Att) : attsLen (a :: l) = a.1.length + a.2.length + attsLen l := by simp [attsLen]
theorem attsLen_mem {a : Att} : ∀ {l : List Att}, a ∈ l → a.1.length + a.2.length ≤ attsLen l
  | [], h => by simp at h
  | b :: r, h => by
    rw [attsLen_cons]
    rcases List.mem_cons.1 h with rfl | h
    · omega
    · have := attsLen_mem h; omega
theorem atts_bulk {H : Type} : ∀ (l : List Att) (ds : List (DataW H)), l.length = ds.length → (∀ (i : Nat) (h1 : i < l.length) (h2 : i < ds.length), l[i].1.length + l[i].2.length ≤ Rows.uptoBulk ds[i]) → attsLen l ≤ Rows.uptoBulkAll ds
  | [], _, _, _ => Nat.zero_le _
  | a :: r, [], h, _ => by simp at h
  | a :: r, d :: ds, h, hi => by
    have h0 := hi 0 (by simp) (by simp)
    have ih := atts_bulk r ds (by simpa using h) (fun i h1 h2 => hi (i + 1) (Nat.succ_lt_succ h1) (Nat.succ_lt_succ h2))
    rw [attsLen_cons]
    simp only [Rows.uptoBulkAll]
    simp only [List.getElem_cons_zero] at h0
    omega
theorem two_of {α β : Type} {f : α → β} {ys : List α} {y0 y1 : α} (hl : ys.length = 2) (h0 : ys[0]? = some y0) (h1 : ys[1]? = some y1) : ys.map f = [f y0, f y1] := by
  match ys, hl with
  | [a, b], _ =>
    simp at h0 h1
    rw [h0, h1]; rfl
section
variable {H : Type} {enc : TypeId × Value → H} {w : World}
theorem open_atsB {fuel : Nat} {v : Value} {x : DataW H × List MemPlace} (h : DataW.trod enc Tryd.prog w 0 (fun _ => true) true fuel 51 [v] = some x) :
    ∃ l : List Att, AtR w w.heap.size v l ∧ l.length ≤ Rows.uptoBulk x.1 ∧ attsLen l ≤ Rows.uptoBulk x.1 := by
  rcases open_slice_fields Tryd.underlying51 Tryd.underlying95 (by kernel_rfl) (by kernel_rfl) h with ⟨h1, h2⟩ | ⟨a, len, c, m, D, Pl, h1, hb, hlc, hcm, hm, hx, hi⟩
  · obtain rfl : v = .slice none 0 0 := by simpa using h1
    exact ⟨[], ⟨none, 0, rfl, Reads.none_⟩, Nat.zero_le _, Nat.zero_le _⟩
  · obtain rfl : v = .slice (some a) len c := by simpa using h1
    have hmc : len ≤ m := by rw [hm]; split <;> omega
    have hex : ∀ i, i < len → ∃ p : Att, p.1.length + p.2.length ≤ Rows.uptoBulk (D i) ∧ w.cell? (a.add (i * 2)) = some (.string (bs p.1)) ∧ w.cell? (a.add (i * 2 + 1)) = some (.string (bs p.2)) := by
      intro i hin
      obtain ⟨ys, n', hD, hP, hyl, hfl⟩ := hi i (by omega)
      obtain ⟨v0, y0, c0, hy0, t0⟩ := hfl 0 _ rfl
      obtain ⟨v1, y1, c1, hy1, t1⟩ := hfl 1 _ rfl
      obtain ⟨s0, e0, z0, w0⟩ := DataW.trod_string Tryd.underlying9 t0
      obtain ⟨s1, e1, z1, w1⟩ := DataW.trod_string Tryd.underlying9 t1
      obtain rfl : v0 = .string s0 := by simpa using e0
      obtain rfl : v1 = .string s1 := by simpa using e1
      refine ⟨(s0.data.toList, s1.data.toList), ?_, by rw [bs_self]; exact c0, by rw [bs_self]; exact c1⟩
      have hys : ys.map (·.1) = [y0.1, y1.1] := two_of hyl hy0 hy1
      rw [hD, hys, z0, z1]
      simp only [Rows.uptoBulk, Rows.uptoBulkAll]
      omega
    obtain ⟨l, hl, hall⟩ := list_of hex
    refine ⟨l, ⟨some a, c, by rw [hl], ⟨by rw [attCells_len], fun hn => ⟨a, rfl, ?_, ?_⟩⟩⟩, ?_, ?_⟩
    · have := cell_lt (hall 0 hn).2.1
      rw [block_of_add] at this
      exact this
    · intro j u hu
      have hj : j < l.length * 2 := by
        rw [← attCells_len]
        exact (List.getElem?_eq_some_iff.1 hu).1
      have h1 : j / 2 < l.length := by omega
      have hg := attCells_get l (j / 2) h1
      rcases Nat.mod_two_eq_zero_or_one j with e | e
      · have e2 : j / 2 * 2 = j := by omega
        rw [e2, hu] at hg
        have := (hall (j / 2) h1).2.1
        rw [e2, ← hg.1] at this
        exact this
      · have e2 : j / 2 * 2 + 1 = j := by omega
        rw [e2, hu] at hg
        have := (hall (j / 2) h1).2.2
        rw [e2, ← hg.2] at this
        exact this
    · rw [hx, hl]
      have := bulkAll_len ((List.range len).map D)
      rw [List.length_map, List.length_range] at this
      simp only [Rows.uptoBulk]; omega
    · rw [hx]
      have := atts_bulk l ((List.range len).map D) (by rw [List.length_map, List.length_range, hl]) (fun i h1 h2 => by
        have := (hall i h1).1
        simpa using this)
      simp only [Rows.uptoBulk]; omega
set_option maxRecDepth 100000 in
theorem open_tksB {r : Reach} {b0 : Nat} {v : Value} {d : DataW H} {ps : List MemPlace} (hval : Value.okWide Tryd.prog w r b0 22 v) (hd : DataW.Trod enc Tryd.prog w 0 (fun _ => true) true 22 v d ps) :
    ∃ (A : Option Addr) (n cap : Nat) (L : List Tk), v = .slice A n cap ∧ L.length = n ∧ TkA w w.heap.size (.slice A n cap) L ∧ (∀ t ∈ L, TkB (Rows.uptoBulk d) t) ∧ L.length ≤ Rows.uptoBulk d := by
  obtain ⟨A, n, cap, rfl⟩ := okWide_slice Tryd.underlying22 hval
  obtain ⟨fuel, hf⟩ := hd
  rcases open_slice_fields Tryd.underlying22 Tryd.underlying53 (by kernel_rfl) (by kernel_rfl) hf with ⟨h1, h2⟩ | ⟨a, len, c, m, D, Pl, h1, hb, hlc, hcm, hm, hx, hi⟩
  · have h3 : Value.slice A n cap = .slice none 0 0 := by simpa [Value.cells] using h1
    injection h3 with e1 e2 e3
    subst e1 e2 e3
    exact ⟨none, 0, 0, [], rfl, rfl, ⟨none, 0, [], rfl, Reads.none_, rfl⟩, (fun t ht => by cases ht), Nat.zero_le _⟩
  · have h3 : Value.slice A n cap = .slice (some a) len c := by simpa [Value.cells] using h1
    injection h3 with e1 e2 e3
    subst e1 e2 e3
    have hmc : n ≤ m := by rw [hm]; split <;> omega
    have hex : ∀ i, i < n → ∃ p : Tk × Value, AtR w w.heap.size p.2 p.1.ats ∧ TkB (Rows.uptoBulk (D i)) p.1 ∧ w.cell? (a.add (i * 5)) = some (.int .i64 p.1.k) ∧ w.cell? (a.add (i * 5 + 1)) = some (.string (bs p.1.n)) ∧ w.cell? (a.add (i * 5 + 2)) = some (.string (bs p.1.x)) ∧ w.cell? (a.add (i * 5 + 3)) = some p.2 ∧ w.cell? (a.add (i * 5 + 4)) = some (.bool p.1.c) := by
      intro i hin
      obtain ⟨ys, n', hD, hP, hyl, hfl⟩ := hi i (by omega)
      obtain ⟨v0, y0, c0, _, t0⟩ := hfl 0 _ rfl
      obtain ⟨v1, y1, c1, hy1, t1⟩ := hfl 1 _ rfl
      obtain ⟨v2, y2, c2, hy2, t2⟩ := hfl 2 _ rfl
      obtain ⟨v3, y3, c3, hy3, t3⟩ := hfl 3 _ rfl
      obtain ⟨v4, y4, c4, _, t4⟩ := hfl 4 _ rfl
      obtain ⟨n0, e0, _, w0⟩ := DataW.trod_int Tryd.underlying3 t0
      obtain ⟨s1, e1, z1, w1⟩ := DataW.trod_string Tryd.underlying9 t1
      obtain ⟨s2, e2, z2, w2⟩ := DataW.trod_string Tryd.underlying9 t2
      obtain ⟨b4, e4, _⟩ := DataW.trod_bool Tryd.underlying4 t4
      obtain rfl : v0 = .int .i64 n0 := by simpa using e0
      obtain rfl : v1 = .string s1 := by simpa using e1
      obtain rfl : v2 = .string s2 := by simpa using e2
      obtain rfl : v4 = .bool b4 := by simpa using e4
      obtain ⟨l, hl, hlb, hlc⟩ := open_atsB t3
      refine ⟨(⟨n0, s1.data.toList, s2.data.toList, l, b4⟩, v3), hl, ?_, c0, by rw [bs_self]; exact c1, by rw [bs_self]; exact c2, c3, c4⟩
      rw [hD]
      have m1 := bulkAll_mem (show y1.1 ∈ ys.map (·.1) from List.mem_map.2 ⟨y1, List.mem_of_getElem? hy1, rfl⟩)
      have m2 := bulkAll_mem (show y2.1 ∈ ys.map (·.1) from List.mem_map.2 ⟨y2, List.mem_of_getElem? hy2, rfl⟩)
      have m3 := bulkAll_mem (show y3.1 ∈ ys.map (·.1) from List.mem_map.2 ⟨y3, List.mem_of_getElem? hy3, rfl⟩)
      rw [z1] at m1
      rw [z2] at m2
      simp only [Rows.uptoBulk] at m1 m2 ⊢
      exact ⟨by show l.length ≤ _; omega, by show s1.data.toList.length ≤ _; omega, by show s2.data.toList.length ≤ _; omega, by show attsLen l ≤ _; omega⟩
    obtain ⟨l, hl, hall⟩ := list_of hex
    simp only [Prod.mk.injEq] at hx
    have hmemD : ∀ i, i < n → Rows.uptoBulk (D i) ≤ Rows.uptoBulk d := by
      intro i hin
      have hmem : D i ∈ (List.range n).map D := List.mem_map.2 ⟨i, List.mem_range.2 hin, rfl⟩
      have := bulkAll_mem hmem
      rw [hx.1]
      simp only [Rows.uptoBulk]; omega
    refine ⟨some a, n, cap, l.map (·.1), rfl, by rw [List.length_map, hl], ⟨some a, cap, tvCells l, by rw [List.length_map, hl], ⟨by rw [tvCells_len, List.length_map], fun hn => ⟨a, rfl, ?_, ?_⟩⟩, tkR_of l ?_⟩, ?_, ?_⟩
    · rw [List.length_map] at hn
      have := cell_lt (hall 0 hn).2.2.1
      rw [block_of_add] at this
      exact this
    · intro j u hu
      have hj : j < l.length * 5 := by
        rw [← tvCells_len]
        exact (List.getElem?_eq_some_iff.1 hu).1
      have h1 : j / 5 < l.length := by omega
      have h2 := tvCells_get l (j / 5) (j % 5) h1 (by omega)
      have e : j / 5 * 5 + j % 5 = j := by omega
      rw [e, hu] at h2
      obtain ⟨-, -, g0, g1, g2, g3, g4⟩ := hall (j / 5) h1
      have hm5 : j % 5 < 5 := by omega
      rcases (show j % 5 = 0 ∨ j % 5 = 1 ∨ j % 5 = 2 ∨ j % 5 = 3 ∨ j % 5 = 4 by omega) with h | h | h | h | h <;> rw [h] at h2 e
      · rw [Nat.add_zero] at e; rw [e] at g0; rw [g0]; exact h2.symm
      · rw [e] at g1; rw [g1]; exact h2.symm
      · rw [e] at g2; rw [g2]; exact h2.symm
      · rw [e] at g3; rw [g3]; exact h2.symm
      · rw [e] at g4; rw [g4]; exact h2.symm
    · intro t ht
      obtain ⟨i, hi2, rfl⟩ := List.getElem_of_mem ht
      exact (hall i hi2).1
    · intro t ht
      obtain ⟨p, hp, rfl⟩ := List.mem_map.1 ht
      obtain ⟨i, hi2, rfl⟩ := List.getElem_of_mem hp
      exact (hall i hi2).2.1.up (hmemD i (by omega))
    · rw [List.length_map, hl, hx.1]
      have := bulkAll_len ((List.range n).map D)
      rw [List.length_map, List.length_range] at this
      simp only [Rows.uptoBulk]; omega
end
end Go.Proofs.YtihgmgpcdodknaaDoor
