/- A slice of nodes that came in, opened to its tree. -/
import Derived.Test.YthhaannlbkgefaaNds
import Derived.Test.YthhaannlbkgefaaLaw
import Derived.Deep.Slices
import Derived.Deep.Fields
import Derived.ChangeSame
import Derived.OpenShut
set_option linter.unusedVariables false
namespace Go.Proofs.Ythhaannlbkgefaa
open Go.ChangeShapes Go.WideShapes Go.Deep Go.RowKit

theorem cell_lt {w : World} {p : Addr} {v : Value} (h : w.cell? p = some v) : p.block < w.heap.size := by
  rcases Nat.lt_or_ge p.block w.heap.size with h1 | h1
  · exact h1
  · exfalso
    have : w.heap[p.block]? = none := Array.getElem?_eq_none h1
    simp [World.cell?, this] at h
theorem list_of {α : Type} {n : Nat} {P : Nat → α → Prop} (h : ∀ i, i < n → ∃ a, P i a) : ∃ l : List α, l.length = n ∧ ∀ i (hi : i < l.length), P i l[i] := by
  refine ⟨List.ofFn fun i : Fin n => (h i.val i.isLt).choose, by simp, fun i hi => ?_⟩
  have hi' : i < n := by simpa using hi
  rw [List.getElem_ofFn]
  exact (h i hi').choose_spec
theorem bulk_pos {H : Type} (d : DataW H) : 1 ≤ Rows.uptoBulk d := by
  cases d with
  | lit l => cases l <;> simp [Rows.uptoBulk]
  | _ => simp [Rows.uptoBulk]
theorem bulkAll_at {H : Type} : ∀ (l : List (DataW H)) (i : Nat) (h : i < l.length), Rows.uptoBulk l[i] ≤ Rows.uptoBulkAll l
  | d :: r, 0, _ => by simp [Rows.uptoBulkAll]
  | d :: r, i + 1, h => by
    have := bulkAll_at r i (by simpa using h)
    simp only [List.getElem_cons_succ, Rows.uptoBulkAll]; omega
theorem nds_of {w : World} {B : Nat} {ad : Addr} : ∀ (l : List Nd) (i : Nat), (∀ k (h : k < l.length), NdAt w B (ad.add ((i + k) * 9)) l[k]) → NdsAt w B (some ad) i l
  | [], _, _ => by unfold NdsAt; trivial
  | n :: r, i, h => by
    unfold NdsAt
    refine ⟨⟨ad, rfl, h 0 (by simp)⟩, nds_of r (i + 1) fun k hk => ?_⟩
    have := h (k + 1) (by simpa using hk)
    rw [show i + 1 + k = i + (k + 1) by omega]
    exact this
theorem nds_sums {H : Type} : ∀ (l : List Nd) (ds : List (DataW H)), l.length = ds.length → (∀ k (h : k < l.length) (h' : k < ds.length), l[k].num ≤ Rows.uptoBulk ds[k] ∧ l[k].sz.1 ≤ Rows.uptoBulk ds[k] ∧ l[k].sz.2 ≤ Rows.uptoBulk ds[k]) →
    ndsNum l ≤ Rows.uptoBulkAll ds ∧ (ndsSz l).1 ≤ Rows.uptoBulkAll ds ∧ (ndsSz l).2 ≤ Rows.uptoBulkAll ds
  | [], ds, _, _ => by simp [ndsNum, ndsSz]
  | n :: r, [], h, _ => by simp at h
  | n :: r, d :: ds, h, hall => by
    have h0 := hall 0 (by simp) (by simp)
    have h1 := nds_sums r ds (by simpa using h) fun k hk hk' => hall (k + 1) (by simpa using hk) (by simpa using hk')
    simp only [List.getElem_cons_zero] at h0
    simp only [ndsNum, ndsSz, Rows.uptoBulkAll]
    omega

section
variable {H : Type} {enc : TypeId × Value → H} {w : World}
theorem open_nds_key : ∀ (fuel : Nat) (cs : List Value) (x : DataW H × List MemPlace), DataW.trod enc Try.prog w 0 (fun _ => true) true fuel 22 cs = some x → Rows.uptoBulk x.1 ≤ 1048576 →
    ∃ (A : Option Addr) (n cap : Nat) (l : List Nd), cs = [.slice A n cap] ∧ l.length = n ∧ NdsAt w w.heap.size A 0 l ∧ ndsNum l ≤ Rows.uptoBulk x.1 ∧ (ndsSz l).1 ≤ Rows.uptoBulk x.1 ∧ (ndsSz l).2 ≤ Rows.uptoBulk x.1 := by
  intro fuel
  induction fuel using Nat.strongRecOn with
  | ind fuel ih =>
    intro cs x h hbk
    rcases DataW.trod_slice Try.underlying22 h with ⟨rfl, rfl⟩ | ⟨a, len, cap, elems, rest, n, rfl, rfl, rfl, hb, hlc, hcm, hlen, hel, _, _⟩
    · exact ⟨none, 0, 0, [], rfl, rfl, by unfold NdsAt; trivial, by simp [ndsNum], by simp [ndsSz], by simp [ndsSz]⟩
    · have hC : Try.prog.cellsOf 41 = 9 := by kernel_rfl
      have hone : oneCellFields Try.prog _ = true := (show oneCellFields Try.prog (match Try.prog.underlying 41 with | some (.struct fs) => fs | _ => #[]) = true by kernel_rfl)
      simp only [Rows.uptoBulk] at hbk
      have hex : ∀ i, i < len → ∃ nd : Nd, NdAt w w.heap.size (a.add (i * 9)) nd ∧ ∀ (h' : i < (elems.map (·.1)).length), nd.num ≤ Rows.uptoBulk (elems.map (·.1))[i] ∧ nd.sz.1 ≤ Rows.uptoBulk (elems.map (·.1))[i] ∧ nd.sz.2 ≤ Rows.uptoBulk (elems.map (·.1))[i] := by
        intro i hi
        have hil : i < elems.length := by omega
        have h1 := hel i hi
        rw [hC, List.getElem?_eq_getElem hil] at h1
        cases hcs : w.cells? 0 (a.add (i * 9)) 9 with
        | none => rw [hcs] at h1; cases h1
        | some cs' =>
          rw [hcs] at h1
          have ht : DataW.trod enc Try.prog w 0 (fun _ => true) true n 41 cs' = some elems[i] := h1
          have hbi : Rows.uptoBulk elems[i].1 ≤ 1048576 := by
            have := bulkAll_at (elems.map (·.1)) i (by simpa using hil)
            rw [List.getElem_map] at this
            omega
          obtain ⟨ys, n', rfl, hy, hcl, hyl, hf⟩ := DataW.trod_struct Try.underlying41 ht
          obtain ⟨_, hcl2, hat⟩ := World.cells?_some hcs
          have hfl : ∀ (j : Nat) (f : Field), (match Try.prog.underlying 41 with | some (.struct fs) => fs | _ => #[])[j]? = some f → j < 9 → ∃ (v : Value) (y : DataW H × List MemPlace), w.cell? ((a.add (i * 9)).add j) = some v ∧ ys[j]? = some y ∧ DataW.trod enc Try.prog w 0 (fun _ => true) true n' f.type [v] = some y := by
            intro j f hj hj9
            obtain ⟨ho, hk⟩ := hone_of hone j f hj
            have h1 := hf j f hj
            rw [ho, hk] at h1
            have hone' : (cs'.drop j).take 1 = [cs'[j]'(by omega)] := by
              rw [List.drop_eq_getElem_cons (by omega)]
              rfl
            rw [hone'] at h1
            have hyl9 : ys.length = 9 := hyl
            have hys : ys[j]? = some (ys[j]'(by omega)) := List.getElem?_eq_getElem (by omega)
            have hv : cs'[j]? = some (cs'[j]'(by omega)) := List.getElem?_eq_getElem (by omega)
            refine ⟨_, _, ?_, hys, h1.trans hys⟩
            have hcell := hat j hj9
            rw [hcell, hv]
          have hbs : ∀ (j : Nat) (y : DataW H × List MemPlace), ys[j]? = some y → Rows.uptoBulk y.1 ≤ Rows.uptoBulkAll (ys.map (·.1)) := by
            intro j y hj
            obtain ⟨hjl, rfl⟩ := List.getElem?_eq_some_iff.1 hj
            have := bulkAll_at (ys.map (·.1)) j (by simpa using hjl)
            rwa [List.getElem_map] at this
          obtain ⟨v0, y0, c0, q0, t0⟩ := hfl 0 _ rfl (by decide)
          obtain ⟨v1, y1, c1, q1, t1⟩ := hfl 1 _ rfl (by decide)
          obtain ⟨v2, y2, c2, q2, t2⟩ := hfl 2 _ rfl (by decide)
          obtain ⟨v3, y3, c3, q3, t3⟩ := hfl 3 _ rfl (by decide)
          obtain ⟨v4, y4, c4, q4, t4⟩ := hfl 4 _ rfl (by decide)
          obtain ⟨v5, y5, c5, q5, t5⟩ := hfl 5 _ rfl (by decide)
          obtain ⟨v6, y6, c6, q6, t6⟩ := hfl 6 _ rfl (by decide)
          obtain ⟨v7, y7, c7, q7, t7⟩ := hfl 7 _ rfl (by decide)
          obtain ⟨v8, y8, c8, q8, t8⟩ := hfl 8 _ rfl (by decide)
          obtain ⟨n0, e0, _, w0⟩ := DataW.trod_int Try.underlying3 t0
          obtain ⟨s1, e1, p1, w1⟩ := DataW.trod_string Try.underlying9 t1
          obtain ⟨s2, e2, _, w2⟩ := DataW.trod_string Try.underlying9 t2
          obtain ⟨n6, e6, _, w6⟩ := DataW.trod_int Try.underlying3 t6
          obtain ⟨n7, e7, _, w7⟩ := DataW.trod_int Try.underlying3 t7
          obtain ⟨n8, e8, _, w8⟩ := DataW.trod_int Try.underlying3 t8
          obtain rfl : v0 = .int .i64 n0 := by simpa using e0
          obtain rfl : v1 = .string s1 := by simpa using e1
          obtain rfl : v2 = .string s2 := by simpa using e2
          obtain rfl : v6 = .int .i64 n6 := by simpa using e6
          obtain rfl : v7 = .int .i64 n7 := by simpa using e7
          obtain rfl : v8 = .int .i64 n8 := by simpa using e8
          have hel2 : elems[i] = (DataW.agg (ys.map (·.1)), ys.flatMap (·.2)) := hy
          have hba : Rows.uptoBulk elems[i].1 = Rows.uptoBulkAll (ys.map (·.1)) + 1 := by rw [hel2]; simp only [Rows.uptoBulk]
          obtain ⟨A4, k4, m4, l4, e4, hl4, hat4, hn4, hs4, ht4⟩ := ih n' (by omega) [v4] y4 t4 (by have := hbs 4 y4 q4; omega)
          obtain ⟨A5, k5, m5, l5, e5, hl5, hat5, hn5, hs5, ht5⟩ := ih n' (by omega) [v5] y5 t5 (by have := hbs 5 y5 q5; omega)
          obtain rfl : v4 = .slice A4 k4 m4 := by simpa using e4
          obtain rfl : v5 = .slice A5 k5 m5 := by simpa using e5
          subst hl4 hl5
          have h3 : ∃ A3 k3 m3, v3 = Value.slice A3 k3 m3 := by
            rcases DataW.trod_slice (show Try.prog.underlying _ = some (.slice _) from rfl) t3 with ⟨h1, _⟩ | ⟨a3, len3, cap3, _, _, _, _, h1, _⟩
            · exact ⟨none, 0, 0, by simpa using h1⟩
            · exact ⟨some a3, len3, cap3, by simpa using h1⟩
          obtain ⟨A3, k3, m3, rfl⟩ := h3
          have ea : ∀ j, (a.add (i * 9)).add (j + 1) = ⟨(a.add (i * 9)).block, (a.add (i * 9)).off + (j + 1), none⟩ := fun j => Addr.add_succ' _ _
          have hys9 : ys = [y0, y1, y2, y3, y4, y5, y6, y7, y8] := by
            have hyl9 : ys.length = 9 := hyl
            apply List.ext_getElem?
            intro j
            match j with
            | 0 => exact q0
            | 1 => exact q1
            | 2 => exact q2
            | 3 => exact q3
            | 4 => exact q4
            | 5 => exact q5
            | 6 => exact q6
            | 7 => exact q7
            | 8 => exact q8
            | k + 9 => rw [List.getElem?_eq_none (by omega)]; simp
          have hsum : Rows.uptoBulkAll (ys.map (·.1)) = Rows.uptoBulk y0.1 + (Rows.uptoBulk y1.1 + (Rows.uptoBulk y2.1 + (Rows.uptoBulk y3.1 + (Rows.uptoBulk y4.1 + (Rows.uptoBulk y5.1 + (Rows.uptoBulk y6.1 + (Rows.uptoBulk y7.1 + Rows.uptoBulk y8.1))))))) := by
            rw [hys9]; simp [Rows.uptoBulkAll]
          have hp1 : s1.size ≤ Rows.uptoBulk y1.1 := by
            rw [p1]
            simp [Rows.uptoBulk]
          refine ⟨.mk n0 s1 l4 l5, ?_, ?_⟩
          · unfold NdAt
            exact ⟨⟨cell_lt c0, by omega⟩, c0, ((ea 0).symm ▸ c1), s2, A3, k3, m3, A4, m4, A5, m5, n6, n7, n8, ((ea 1) ▸ c2), ((ea 2) ▸ c3), ((ea 3) ▸ c4), ((ea 4) ▸ c5), ((ea 5) ▸ c6), ((ea 6) ▸ c7), ((ea 7) ▸ c8), hat4, hat5⟩
          · intro h'
            rw [List.getElem_map, hba, hsum]
            have ho1 : (oneP n0 s1).1 ≤ s1.size ∧ (oneP n0 s1).2 ≤ 1 := by
              unfold oneP
              split
              · exact ⟨Nat.le_refl _, Nat.zero_le _⟩
              · split <;> simp
            simp only [Nd.num, Nd.sz]
            omega
      obtain ⟨l, hl, hall⟩ := list_of hex
      have hll : l.length = (elems.map (·.1)).length := by rw [List.length_map]; omega
      have hs := nds_sums l (elems.map (·.1)) hll fun k hk hk' => (hall k hk).2 hk'
      refine ⟨some a, len, cap, l, rfl, hl, nds_of l 0 fun k hk => by rw [Nat.zero_add]; exact (hall k hk).1, ?_, ?_, ?_⟩
      all_goals (simp only [Rows.uptoBulk]; omega)
theorem open_nds {r : Reach} {b0 : Nat} {v : Value} {d : DataW H} {ps : List MemPlace} (hval : Value.okWide Try.prog w r b0 22 v) (hd : DataW.Trod enc Try.prog w 0 (fun _ => true) true 22 v d ps) :
    ∃ (A : Option Addr) (n cap : Nat) (l : List Nd), v = .slice A n cap ∧ l.length = n ∧ (Rows.uptoBulk d ≤ 1048576 → NdsAt w w.heap.size A 0 l ∧ ndsNum l ≤ Rows.uptoBulk d ∧ (ndsSz l).1 ≤ Rows.uptoBulk d ∧ (ndsSz l).2 ≤ Rows.uptoBulk d) := by
  obtain ⟨A, n, cap, rfl⟩ := okWide_slice Try.underlying22 hval
  by_cases hbk : Rows.uptoBulk d ≤ 1048576
  · obtain ⟨fuel, hf⟩ := hd
    obtain ⟨A', n', cap', l, e, hl, h1, h2, h3, h4⟩ := open_nds_key fuel _ _ hf hbk
    have h5 : Value.slice A n cap = .slice A' n' cap' := by simpa [Value.cells] using e
    injection h5 with e1 e2 e3
    subst e1 e2 e3
    exact ⟨A, n, cap, l, rfl, hl, fun _ => ⟨h1, h2, h3, h4⟩⟩
  · exact ⟨A, n, cap, List.replicate n (.mk 0 ByteArray.empty [] []), rfl, by simp, fun h => absurd h hbk⟩
end
end Go.Proofs.Ythhaannlbkgefaa
