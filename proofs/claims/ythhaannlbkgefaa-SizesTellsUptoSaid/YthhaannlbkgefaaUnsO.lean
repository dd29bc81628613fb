/- A slice of units that came in, opened to its bodies' trees. -/
import Derived.Test.YthhaannlbkgefaaUns
import Derived.Test.YthhaannlbkgefaaNdsO
set_option linter.unusedVariables false
namespace Go.Proofs.Ythhaannlbkgefaa
open Go.ChangeShapes Go.WideShapes Go.Deep Go.RowKit

theorem spot_none {w : World} {p : Addr} {v : Value} (h : w.cell? p = some v) : p.spot = none := by
  unfold World.cell? at h
  split at h
  · split at h
    · cases h
    · cases hs : p.spot with
      | none => rfl
      | some _ => simp_all
  · cases h
theorem add_nil (a : Addr) : a.add 0 = a := if_pos rfl
theorem uns_bulk {H : Type} : ∀ (us : List (List Nd)) (ds : List (DataW H)), us.length = ds.length → (∀ k (h : k < us.length) (h' : k < ds.length), ndsNum us[k] ≤ Rows.uptoBulk ds[k] ∧ (ndsSz us[k]).1 ≤ Rows.uptoBulk ds[k] ∧ (ndsSz us[k]).2 ≤ Rows.uptoBulk ds[k]) →
    us.length ≤ Rows.uptoBulkAll ds ∧ ndsNum us.flatten ≤ Rows.uptoBulkAll ds ∧ (ndsSz us.flatten).1 ≤ Rows.uptoBulkAll ds ∧ (ndsSz us.flatten).2 ≤ Rows.uptoBulkAll ds
  | [], ds, _, _ => by simp [ndsNum, ndsSz]
  | l :: r, [], h, _ => by simp at h
  | l :: r, d :: ds, h, hall => by
    have h0 := hall 0 (by simp) (by simp)
    have h1 := uns_bulk r ds (by simpa using h) fun k hk hk' => hall (k + 1) (by simpa using hk) (by simpa using hk')
    have h2 := bulk_pos d
    simp only [List.getElem_cons_zero] at h0
    rw [List.flatten_cons, ndsNum_app, ndsSz_app]
    simp only [List.length_cons, Rows.uptoBulkAll]
    omega

section
variable {H : Type} {enc : TypeId × Value → H} {w : World}
theorem state_one {fuel : Nat} {cs : List Value} {x : DataW H × List MemPlace} (h : DataW.trod enc Try.prog w 0 (fun _ => true) true fuel 35 cs = some x) : cs.length = 8 ∧ ∀ v ∈ cs, v.oneCell' = true := by
  have hC : Try.prog.cellsOf 35 = 8 := by kernel_rfl
  have hone : oneCellFields Try.prog _ = true := (show oneCellFields Try.prog (match Try.prog.underlying 35 with | some (.struct fs) => fs | _ => #[]) = true by kernel_rfl)
  obtain ⟨ys, n', rfl, hy, hcl, hyl, hf⟩ := DataW.trod_struct Try.underlying35 h
  rw [hC] at hcl
  have hfl : ∀ (j : Nat) (f : Field), (match Try.prog.underlying 35 with | some (.struct fs) => fs | _ => #[])[j]? = some f → j < 8 → ∃ (v : Value) (y : DataW H × List MemPlace), cs[j]? = some v ∧ DataW.trod enc Try.prog w 0 (fun _ => true) true n' f.type [v] = some y := by
    intro j f hj hj8
    obtain ⟨ho, hk⟩ := hone_of hone j f hj
    have h1 := hf j f hj
    rw [ho, hk] at h1
    have hone' : (cs.drop j).take 1 = [cs[j]'(by omega)] := by
      rw [List.drop_eq_getElem_cons (by omega)]
      rfl
    rw [hone'] at h1
    have hyl8 : ys.length = 8 := hyl
    have hys : ys[j]? = some (ys[j]'(by omega)) := List.getElem?_eq_getElem (by omega)
    exact ⟨_, _, List.getElem?_eq_getElem (by omega), h1.trans hys⟩
  obtain ⟨v0, y0, c0, t0⟩ := hfl 0 _ rfl (by decide)
  obtain ⟨v1, y1, c1, t1⟩ := hfl 1 _ rfl (by decide)
  obtain ⟨v2, y2, c2, t2⟩ := hfl 2 _ rfl (by decide)
  obtain ⟨v3, y3, c3, t3⟩ := hfl 3 _ rfl (by decide)
  obtain ⟨v4, y4, c4, t4⟩ := hfl 4 _ rfl (by decide)
  obtain ⟨v5, y5, c5, t5⟩ := hfl 5 _ rfl (by decide)
  obtain ⟨v6, y6, c6, t6⟩ := hfl 6 _ rfl (by decide)
  obtain ⟨v7, y7, c7, t7⟩ := hfl 7 _ rfl (by decide)
  obtain ⟨n0, e0, _⟩ := DataW.trod_int Try.underlying3 t0
  obtain ⟨s1, e1, _⟩ := DataW.trod_string Try.underlying9 t1
  obtain ⟨s2, e2, _⟩ := DataW.trod_string Try.underlying9 t2
  obtain ⟨n3, e3, _⟩ := DataW.trod_int Try.underlying5 t3
  obtain ⟨s4, e4, _⟩ := DataW.trod_string Try.underlying9 t4
  obtain ⟨s5, e5, _⟩ := DataW.trod_string Try.underlying9 t5
  obtain ⟨n6, e6, _⟩ := DataW.trod_int Try.underlying3 t6
  obtain ⟨s7, e7, _⟩ := DataW.trod_string Try.underlying9 t7
  have hcs : cs = [v0, v1, v2, v3, v4, v5, v6, v7] := by
    apply List.ext_getElem?
    intro j
    match j with
    | 0 => exact c0
    | 1 => exact c1
    | 2 => exact c2
    | 3 => exact c3
    | 4 => exact c4
    | 5 => exact c5
    | 6 => exact c6
    | 7 => exact c7
    | k + 8 => rw [List.getElem?_eq_none (by omega)]; simp
  refine ⟨hcl, ?_⟩
  simp only [List.cons.injEq, and_true] at e0 e1 e2 e3 e4 e5 e6 e7
  subst e0 e1 e2 e3 e4 e5 e6 e7 hcs
  simp [Value.oneCell']
theorem open_uns_key {fuel : Nat} {cs : List Value} {x : DataW H × List MemPlace} (h : DataW.trod enc Try.prog w 0 (fun _ => true) true fuel 31 cs = some x) (hbk : Rows.uptoBulk x.1 ≤ 1048576) :
    ∃ (A : Option Addr) (n cap : Nat) (us : List (List Nd)), cs = [.slice A n cap] ∧ us.length = n ∧ UnsAt w w.heap.size A us ∧ us.length ≤ Rows.uptoBulk x.1 ∧ ndsNum us.flatten ≤ Rows.uptoBulk x.1 ∧ (ndsSz us.flatten).1 ≤ Rows.uptoBulk x.1 ∧ (ndsSz us.flatten).2 ≤ Rows.uptoBulk x.1 := by
  rcases DataW.trod_slice Try.underlying31 h with ⟨rfl, rfl⟩ | ⟨a, len, cap, elems, rest, n, rfl, rfl, rfl, hb, hlc, hcm, hlen, hel, _, _⟩
  · exact ⟨none, 0, 0, [], rfl, rfl, fun k hk => absurd hk (Nat.not_lt_zero _), by simp, by simp [ndsNum], by simp [ndsSz], by simp [ndsSz]⟩
  · have hC : Try.prog.cellsOf 37 = 18 := by kernel_rfl
    have hCS : Try.prog.cellsOf 35 = 8 := by kernel_rfl
    have hC1 : Try.prog.cellsOf 9 = 1 := by kernel_rfl
    have hC2 : Try.prog.cellsOf 22 = 1 := by kernel_rfl
    simp only [Rows.uptoBulk] at hbk
    have hex : ∀ i, i < len → ∃ l : List Nd, UnAt w w.heap.size (a.add (i * 18)) l ∧ ∀ (h' : i < (elems.map (·.1)).length), ndsNum l ≤ Rows.uptoBulk (elems.map (·.1))[i] ∧ (ndsSz l).1 ≤ Rows.uptoBulk (elems.map (·.1))[i] ∧ (ndsSz l).2 ≤ Rows.uptoBulk (elems.map (·.1))[i] := by
      intro i hi
      have hil : i < elems.length := by omega
      have h1 := hel i hi
      rw [hC, List.getElem?_eq_getElem hil] at h1
      cases hcs : w.cells? 0 (a.add (i * 18)) 18 with
      | none => rw [hcs] at h1; cases h1
      | some cs' =>
        rw [hcs] at h1
        have ht : DataW.trod enc Try.prog w 0 (fun _ => true) true n 37 cs' = some elems[i] := h1
        have hbi : Rows.uptoBulk elems[i].1 ≤ 1048576 := by
          have := bulkAll_at (elems.map (·.1)) i (by simpa using hil)
          rw [List.getElem_map] at this
          omega
        obtain ⟨ys, n', rfl, hy, hcl, hyl, hf⟩ := DataW.trod_struct Try.underlying37 ht
        obtain ⟨_, hcl2, hat⟩ := World.cells?_some hcs
        have hyl4 : ys.length = 4 := hyl
        have hy4 : ∀ j (h : j < 4), ys[j]? = some (ys[j]'(by omega)) := fun j h => List.getElem?_eq_getElem (by omega)
        have f0 : DataW.trod enc Try.prog w 0 (fun _ => true) true n' 9 (List.take (Try.prog.cellsOf 9) (List.drop 0 cs')) = ys[0]? := hf 0 _ rfl
        have f1 : DataW.trod enc Try.prog w 0 (fun _ => true) true n' 35 (List.take (Try.prog.cellsOf 35) (List.drop 1 cs')) = ys[1]? := hf 1 _ rfl
        have f2 : DataW.trod enc Try.prog w 0 (fun _ => true) true n' 35 (List.take (Try.prog.cellsOf 35) (List.drop 9 cs')) = ys[2]? := hf 2 _ rfl
        have f3 : DataW.trod enc Try.prog w 0 (fun _ => true) true n' 22 (List.take (Try.prog.cellsOf 22) (List.drop 17 cs')) = ys[3]? := hf 3 _ rfl
        rw [hC1, hy4 0 (by decide)] at f0
        rw [hCS, hy4 1 (by decide)] at f1
        rw [hCS, hy4 2 (by decide)] at f2
        rw [hC2, hy4 3 (by decide)] at f3
        obtain ⟨s0, e0, _⟩ := DataW.trod_string Try.underlying9 f0
        obtain ⟨_, o1⟩ := state_one f1
        obtain ⟨_, o2⟩ := state_one f2
        have hel2 : elems[i] = (DataW.agg (ys.map (·.1)), ys.flatMap (·.2)) := hy
        have hba : Rows.uptoBulk elems[i].1 = Rows.uptoBulkAll (ys.map (·.1)) + 1 := by rw [hel2]; simp only [Rows.uptoBulk]
        have hb3 := bulkAll_at (ys.map (·.1)) 3 (by simpa using (by omega : 3 < ys.length))
        rw [List.getElem_map] at hb3
        obtain ⟨A3, n3, c3, l, e3, hl, hnd, q1, q2, q3⟩ := open_nds_key _ _ _ f3 (by omega)
        have h17 : cs'[17]? = some (.slice A3 n3 c3) := by
          have := congrArg (fun l => l[0]?) e3
          simpa [List.getElem?_take, List.getElem?_drop] using this
        refine ⟨l, ⟨?_, ?_, cs', hcl2, all_oneCell_toArray ?_, ?_, A3, c3, ?_, hnd⟩, ?_⟩
        · have := hat 17 (by decide)
          rw [h17] at this
          have := cell_lt this
          rwa [block_of_add] at this
        · have := hat 0 (by decide)
          rw [List.getElem?_eq_getElem (by omega), add_nil] at this
          exact spot_none this
        · intro v hv
          have hs : cs' = (cs'.drop 0).take 1 ++ ((cs'.drop 1).take 8 ++ ((cs'.drop 9).take 8 ++ (cs'.drop 17).take 1)) := by
            have g3 : (cs'.drop 17).take 1 = cs'.drop 17 := List.take_of_length_le (by rw [List.length_drop]; omega)
            have g2 : (cs'.drop 9).take 8 ++ cs'.drop 17 = cs'.drop 9 := by
              have := List.take_append_drop 8 (cs'.drop 9); rwa [List.drop_drop] at this
            have g1 : (cs'.drop 1).take 8 ++ cs'.drop 9 = cs'.drop 1 := by
              have := List.take_append_drop 8 (cs'.drop 1); rwa [List.drop_drop] at this
            rw [g3, g2, g1, List.drop_zero, List.take_append_drop]
          rw [hs] at hv
          rcases List.mem_append.1 hv with hv | hv
          · rw [e0] at hv; obtain rfl := List.mem_singleton.1 hv; rfl
          · rcases List.mem_append.1 hv with hv | hv
            · exact o1 v hv
            · rcases List.mem_append.1 hv with hv | hv
              · exact o2 v hv
              · rw [e3] at hv; obtain rfl := List.mem_singleton.1 hv; rfl
        · intro j v hv
          have hj : j < 18 := by obtain ⟨h, _⟩ := List.getElem?_eq_some_iff.1 hv; omega
          have := hat j hj
          rw [hv] at this
          have hsp : (a.add (i * 18)).spot = none := by
            have h0 := hat 0 (by decide)
            rw [List.getElem?_eq_getElem (by omega), add_nil] at h0
            exact spot_none h0
          match j with
          | 0 =>
            rw [add_nil] at this
            rw [← this, Nat.add_zero, ← hsp]
          | j + 1 => rw [← this, Addr.add_succ']
        · rw [hl]; exact h17
        · intro h'
          rw [List.getElem_map, hba]
          omega
    obtain ⟨us, hl, hall⟩ := list_of hex
    have hll : us.length = (elems.map (·.1)).length := by rw [List.length_map]; omega
    have hs := uns_bulk us (elems.map (·.1)) hll fun k hk hk' => (hall k hk).2 hk'
    refine ⟨some a, len, cap, us, rfl, hl, fun k hk => ⟨a, rfl, (hall k hk).1⟩, ?_, ?_, ?_, ?_⟩
    all_goals (simp only [Rows.uptoBulk]; omega)
theorem open_uns {r : Reach} {b0 : Nat} {v : Value} {d : DataW H} {ps : List MemPlace} (hval : Value.okWide Try.prog w r b0 31 v) (hd : DataW.Trod enc Try.prog w 0 (fun _ => true) true 31 v d ps) :
    ∃ (A : Option Addr) (n cap : Nat) (us : List (List Nd)), v = .slice A n cap ∧ us.length = n ∧ (Rows.uptoBulk d ≤ 1048576 → UnsAt w w.heap.size A us ∧ us.length ≤ Rows.uptoBulk d ∧ ndsNum us.flatten ≤ Rows.uptoBulk d ∧ (ndsSz us.flatten).1 ≤ Rows.uptoBulk d ∧ (ndsSz us.flatten).2 ≤ Rows.uptoBulk d) := by
  obtain ⟨A, n, cap, rfl⟩ := okWide_slice Try.underlying31 hval
  by_cases hbk : Rows.uptoBulk d ≤ 1048576
  · obtain ⟨fuel, hf⟩ := hd
    obtain ⟨A', n', cap', us, e, hl, h1⟩ := open_uns_key hf hbk
    have h5 : Value.slice A n cap = .slice A' n' cap' := by simpa [Value.cells] using e
    injection h5 with e1 e2 e3
    subst e1 e2 e3
    exact ⟨A, n, cap, us, rfl, hl, fun _ => h1⟩
  · exact ⟨A, n, cap, List.replicate n [], rfl, by simp, fun h => absurd h hbk⟩
end
end Go.Proofs.Ythhaannlbkgefaa
