/- SizesSums: what it returns. -/
import Derived.Test.YthhaannlbkgefaaNdsR
set_option linter.unusedVariables false
namespace Go.Proofs.Ythhaannlbkgefaa
open Go.RowKit

theorem info_nd : (Try.prog.info? 41).map (fun i => (i.zero, i.size, i.bytes)) = some (some (.agg #[.int .i64 0, .string ⟨#[]⟩, .string ⟨#[]⟩, .slice none 0 0, .slice none 0 0, .slice none 0 0, .int .i64 0, .int .i64 0, .int .i64 0]), 9, 136) := by kernel_rfl

set_option maxRecDepth 100000 in
set_option maxHeartbeats 3200000 in
theorem sizesSums_any (A A2 : Option Addr) (cap cap2 : Nat) (a b : List Nd) (m n : Int) (w : World) (ha : ndsNum a + ndsNum b ≤ 1048576) (ha1 : (ndsSz a).1 + (ndsSz b).1 ≤ 1048576) (ha2 : (ndsSz a).2 + (ndsSz b).2 ≤ 1048576)
    (hR : NdsAt w w.heap.size A 0 a) (hR2 : NdsAt w w.heap.size A2 0 b) (h0 : -9223372036854775808 ≤ m) (h1 : m ≤ 9223372036854775807) (h2 : -9223372036854775808 ≤ n) (h3 : n ≤ 9223372036854775807) :
    Calls Try.prog 3 #[.slice A a.length cap, .slice A2 b.length cap2, .int .i64 m, .int .i64 n] w fun e w' => e = .returned (.bool true) ∧ Below w.heap.size w w' := by
  obtain ⟨u, hu⟩ : ∃ u, m.tmod 1099511627776 = u := ⟨_, rfl⟩
  have hub : u.natAbs < 1099511627776 := by rw [← hu, Int.natAbs_tmod]; exact Nat.mod_lt _ (by decide)
  obtain ⟨v, hv⟩ : ∃ v, n.tmod 1099511627776 = v := ⟨_, rfl⟩
  have hvb : v.natAbs < 1099511627776 := by rw [← hv, Int.natAbs_tmod]; exact Nat.mod_lt _ (by decide)
  have hla := ndsNum_len a
  have hlb := ndsNum_len b
  have hoc := fun w => octets_any (u + v) (u + v) (by omega) w
  have hac := fun w => actions_any (u + v) (u + v) (by omega) w
  have heq := fun w => run_ceql (P := Try.prog) (w := w) 24 (u + v) (u + v) (u + v) (u + v) (by omega) (by omega) (by omega) (by omega)
  simp only [decide_true, Bool.and_self] at heq
  have hpr : ∀ (W : World) (x y : Value), (W.alloc (.cells #[x, y] 24)).cell? ⟨W.heap.size, 0, none⟩ = some x ∧ (W.alloc (.cells #[x, y] 24)).cell? ⟨W.heap.size, 1, none⟩ = some y := fun W x y => ⟨by rw [World.cell?_alloc_mark]; rfl, by rw [World.cell?_alloc_mark]; rfl⟩
  have hs1 := fun W : World => (sum_two W.heap.size 2 u v v u (W.alloc (.cells #[cI (u, v), cI (v, u)] 24)) (by omega) (by omega) (by omega) (by omega) (hpr _ _ _).1 (hpr _ _ _).2).mono (fun e w' (h : _ ∧ _) => (⟨h.1, h.2 ▸ alloc_plain W _⟩ : e = _ ∧ Below W.heap.size W w'))
  have hs2 := fun W : World => (sum_two W.heap.size 2 v u u v (W.alloc (.cells #[cI (v, u), cI (u, v)] 24)) (by omega) (by omega) (by omega) (by omega) (hpr _ _ _).1 (hpr _ _ _).2).mono (fun e w' (h : _ ∧ _) => (⟨h.1, h.2 ▸ alloc_plain W _⟩ : e = _ ∧ Below W.heap.size W w'))
  have hs3 := fun W : World => (sum_two W.heap.size 2 ((ndsSz a).1 : Int) ((ndsSz a).2 : Int) ((ndsSz b).1 : Int) ((ndsSz b).2 : Int) (W.alloc (.cells #[cI (((ndsSz a).1 : Int), ((ndsSz a).2 : Int)), cI (((ndsSz b).1 : Int), ((ndsSz b).2 : Int))] 24)) (by omega) (by omega) (by omega) (by omega) (hpr _ _ _).1 (hpr _ _ _).2).mono (fun e w' (h : _ ∧ _) => (⟨h.1, h.2 ▸ alloc_plain W _⟩ : e = _ ∧ Below W.heap.size W w'))
  have hq3 := fun w => run_ceql (P := Try.prog) (w := w) 24 ((ndsSz a).1 + (ndsSz b).1 : Int) ((ndsSz a).2 + (ndsSz b).2 : Int) ((ndsSz a).1 + (ndsSz b).1 : Int) ((ndsSz a).2 + (ndsSz b).2 : Int) (by omega) (by omega) (by omega) (by omega)
  simp only [decide_true, Bool.and_self] at hq3
  rw [Int.add_comm v u] at hs1 hs2
  have hna := fun (W : World) (h : NdsAt W w.heap.size A 0 a) (hB : w.heap.size ≤ W.heap.size) => nodes_any a (by omega) (by omega) (by omega) A cap W w.heap.size h hB
  have hnb := fun (W : World) (h : NdsAt W w.heap.size A2 0 b) (hB : w.heap.size ≤ W.heap.size) => nodes_any b (by omega) (by omega) (by omega) A2 cap2 W w.heap.size h hB
  have hnab := fun (W : World) (B : Nat) (ad : Option Addr) (c : Nat) (h : NdsAt W B ad 0 (a ++ b)) (hB : B ≤ W.heap.size) => nodes_any (a ++ b) (by rw [ndsNum_app]; omega) (by rw [ndsSz_app]; simp only; omega) (by rw [ndsSz_app]; simp only; omega) ad c W B h hB
  unfold RNds at hna hnb hnab
  rw [ndsSz_app, List.length_append] at hnab
  simp only [cV, Int.natCast_add] at hna hnb hnab
  simp only [cI] at hs1 hs2 hs3
  obtain ⟨x1, hx1⟩ : ∃ x1, ((ndsSz a).1 : Int) + ((ndsSz b).1 : Int) = x1 := ⟨_, rfl⟩
  obtain ⟨x2, hx2⟩ : ∃ x2, ((ndsSz a).2 : Int) + ((ndsSz b).2 : Int) = x2 := ⟨_, rfl⟩
  rw [hx1, hx2] at hs3 hq3 hnab
  clear hx1 hx2
  obtain ⟨rowA, hrA, hA⟩ := nds_reads a hR
  obtain ⟨rowB, hrB, hB⟩ := nds_reads b hR2
  have HR := hid hR
  have HR2 := hid hR2
  clear hR hR2 ha1 ha2
  obtain ⟨na, hnna⟩ : ∃ na, a.length = na := ⟨_, rfl⟩
  obtain ⟨nb, hnnb⟩ : ∃ nb, b.length = nb := ⟨_, rfl⟩
  have Ha := hid hnna
  have Hb := hid hnnb
  rw [hnna] at hla hA hna hnab ⊢
  rw [hnnb] at hlb hB hnb hnab ⊢
  clear hnna hnnb
  obtain ⟨n1, n2, n3, n4⟩ : na ≤ 1048576 ∧ nb ≤ 1048576 ∧ 0 ≤ na ∧ na + nb ≤ 1048576 := by omega
  clear hla hlb ha
  have hcu : floatOfInt FloatKind.f64 u = fW u := rfl
  have hcv : floatOfInt FloatKind.f64 v = fW v := rfl
  generalize fW u = f1 at hs1 hs2 hcu
  generalize fW v = f2 at hs1 hs2 hcv
  generalize fW (u + v) = f3 at hs1 hs2 heq hoc hac
  generalize fW ((ndsSz a).1 : Int) = a1 at hs3 hna
  generalize fW ((ndsSz a).2 : Int) = a2 at hs3 hna
  generalize fW ((ndsSz b).1 : Int) = b1 at hs3 hnb
  generalize fW ((ndsSz b).2 : Int) = b2 at hs3 hnb
  generalize fW x1 = c1 at hs3 hq3 hnab
  generalize fW x2 = c2 at hs3 hq3 hnab
  have Hs1 := hid hs1
  have Hs2 := hid hs2
  have Hs3 := hid hs3
  have Hna := hid hna
  have Hnb := hid hnb
  have Hnab := hid hnab
  have Hoc := hid hoc
  have Hac := hid hac
  clear hs1 hs2 hs3 hna hnb hnab hoc hac hpr
  obtain ⟨hub1, hub2⟩ : -1099511627776 < u ∧ u < 1099511627776 := by omega
  obtain ⟨hvb1, hvb2⟩ : -1099511627776 < v ∧ v < 1099511627776 := by omega
  clear hub hvb
  obtain ⟨i0, hi, hz0, hz1, hz2⟩ := info_parts info_nd
  go_enter Try.func3, Try.ntmps3
  go_wp2_with fail
  refine (alive34_any _).mono ?_
  rintro e w1 ⟨rfl, hb1⟩
  have hA1 := hA.below hb1
  go_wp2_with (first
    | (at_builtin; refine wpList_append_any _ rfl _ _ 22 rfl w1.heap.size 41 i0 _ 9 136 Try.underlying22 hi hz0 hz1 hz2 rfl (by omega) (.slice none 0 0) 0 [] rfl (World.ownsRow_nil _ _ _ _) w.heap.size A na _ rowA rfl hA1 hrA.one (by unfold maxLen; omega) (by omega) (Nat.le_refl _) ?_; intro v' w2 hown2 hgr2 hat2)
    | (at_builtin; refine wpList_append_any _ rfl _ _ 22 rfl w1.heap.size 41 i0 _ 9 136 Try.underlying22 hi hz0 hz1 hz2 rfl (by omega) v' (0 + na) ([] ++ rowA) rfl hown2 w.heap.size A2 nb _ rowB rfl (hB.below (then_ hb1 ((Below.refl _ _).grown hgr2 (Nat.le_refl _) (by simp [Value.ownBlock])))) hrB.one (by unfold maxLen; omega) (by omega) ((Below.refl _ _).grown hgr2 (Nat.le_refl _) (by simp [Value.ownBlock]) : Below w1.heap.size w1 w2).size ?_; intro v2 w3 hown3 hgr3 hat3))
  have hb2 : Below w1.heap.size w1 w2 := (Below.refl _ _).grown hgr2 (Nat.le_refl _) (by simp [Value.ownBlock])
  have hb3 : Below w1.heap.size w2 w3 := (Below.refl _ _).grown hgr3 hb2.size (fun g hg => by
    rcases hat2 with h | h
    · rw [h] at hg; cases hg
    · rw [h] at hg; cases hg; exact Nat.le_refl _)
  have hbb3 := then_ hb1 (hb2.trans hb3)
  rw [List.nil_append, Nat.zero_add] at hown3
  have hsh : ∃ ad c, v2 = .slice ad (na + nb) c := by
    rcases hown3.2 with ⟨e, e0⟩ | ⟨g, cap, cur, e, _⟩
    · exact ⟨none, 0, by rw [e, e0]⟩
    · exact ⟨_, _, e⟩
  obtain ⟨ad, c3, rfl⟩ := hsh
  have HN3 := hid (nds_of_reads (l := a ++ b) ((hrB.keep (w' := w3) hbb3.size (fun p hp => hbb3.cell hp)).app (hrA.keep (w' := w3) hbb3.size (fun p hp => hbb3.cell hp))) (by rw [List.length_append, Ha.out, Hb.out]; exact Reads.of_own hown3))
  clear hown2 hown3 hgr2 hgr3 hat2 hat3 hA1 hA hB hrA hrB hi hz0 hz1 hz2 hb2 hb3
  go_wp2_with fail
  refine (Hs1.out w3).mono ?_
  rintro e w4 ⟨rfl, hb4⟩
  go_wp2_with fail
  refine (Hs2.out w4).mono ?_
  rintro e w5 ⟨rfl, hb5⟩
  have hb35 := then_ hb4 hb5
  clear hb4 hb5
  go_wp2_with fail
  refine (Hnab.out _ w3.heap.size ad c3 (NdsAt.keep (fun p hp => hb35.cell hp) _ _ _ HN3.out) hb35.size).mono ?_
  rintro e w6 ⟨rfl, hb6⟩
  have hb06 := then_ hbb3 (then_ hb35 hb6)
  clear hb35 hb6 hbb3 HN3 Hs1 Hs2 Hnab hb1
  go_wp2_with fail
  refine (Hna.out _ (NdsAt.keep (fun p hp => hb06.cell hp) _ _ _ HR.out) hb06.size).mono ?_
  rintro e w7 ⟨rfl, hb7⟩
  have hb07 := then_ hb06 hb7
  clear hb06 hb7
  go_wp2_with fail
  refine (Hnb.out _ (NdsAt.keep (fun p hp => hb07.cell hp) _ _ _ HR2.out) hb07.size).mono ?_
  rintro e w8 ⟨rfl, hb8⟩
  have hb08 := then_ hb07 hb8
  clear hb07 hb8 Hna Hnb HR HR2
  go_wp2_with fail
  refine (Hs3.out w8).mono ?_
  rintro e w9 ⟨rfl, hb9⟩
  have hb09 := then_ hb08 hb9
  clear hb08 hb9 Hs3
  go_wp2_with fail
  refine (Hoc.out _).mono ?_
  rintro e w10 ⟨rfl, rfl⟩
  go_wp2_with fail
  refine (Hac.out _).mono ?_
  rintro e w10 ⟨rfl, rfl⟩
  go_wp2
  go_ret
  exact ⟨by first | rfl | simp, hb09⟩
end Go.Proofs.Ythhaannlbkgefaa
