/- Rows of nodes: their cells, two rows one behind the other; Sum of two. -/
import Derived.Test.YthhaannlbkgefaaSizB
set_option linter.unusedVariables false
namespace Go.Proofs.Ythhaannlbkgefaa
open Go.RowKit

mutual
theorem NdAt.more {w : World} {B B' : Nat} (h : B ≤ B') : ∀ (n : Nd) (p : Addr), NdAt w B p n → NdAt w B' p n
  | .mk k x b e, p, hn => by
    unfold NdAt at hn ⊢
    obtain ⟨h0, h1, h2, nm, Ap, np, cp, Ab, cb, Ae, ce, v6, v7, v8, g2, g3, g4, g5, g6, g7, g8, hb, he⟩ := hn
    exact ⟨⟨Nat.lt_of_lt_of_le h0.1 h, h0.2⟩, h1, h2, nm, Ap, np, cp, Ab, cb, Ae, ce, v6, v7, v8, g2, g3, g4, g5, g6, g7, g8, NdsAt.more h b Ab 0 hb, NdsAt.more h e Ae 0 he⟩
theorem NdsAt.more {w : World} {B B' : Nat} (h : B ≤ B') : ∀ (l : List Nd) (A : Option Addr) (i : Nat), NdsAt w B A i l → NdsAt w B' A i l
  | [], _, _, _ => by unfold NdsAt; trivial
  | n :: r, A, i, hl => by
    unfold NdsAt at hl ⊢
    obtain ⟨⟨ad, e, hn⟩, hr⟩ := hl
    exact ⟨⟨ad, e, NdAt.more h n _ hn⟩, NdsAt.more h r A (i + 1) hr⟩
end

/-- the cells of a node -/
def NdCells (w : World) (B : Nat) (cs : List Value) : Nd → Prop
  | .mk k x b e => x.size ≤ 1099511627776 ∧ ∃ (nm : ByteArray) (Ap : Option Addr) (np cp : Nat) (Ab : Option Addr) (cb : Nat) (Ae : Option Addr) (ce : Nat) (v6 v7 v8 : Int),
      cs = [.int .i64 k, .string x, .string nm, .slice Ap np cp, .slice Ab b.length cb, .slice Ae e.length ce, .int .i64 v6, .int .i64 v7, .int .i64 v8] ∧ NdsAt w B Ab 0 b ∧ NdsAt w B Ae 0 e
def NdsRow (w : World) (B : Nat) : List Value → List Nd → Prop
  | row, [] => row = []
  | row, n :: r => ∃ cs rest, row = cs ++ rest ∧ NdCells w B cs n ∧ NdsRow w B rest r
theorem NdCells.len {w : World} {B : Nat} {cs : List Value} : ∀ {n : Nd}, NdCells w B cs n → cs.length = 9
  | .mk k x b e, h => by
    obtain ⟨_, nm, Ap, np, cp, Ab, cb, Ae, ce, v6, v7, v8, rfl, _⟩ := h
    rfl
theorem NdCells.one {w : World} {B : Nat} {cs : List Value} : ∀ {n : Nd}, NdCells w B cs n → ∀ u ∈ cs, u.oneCell' = true
  | .mk k x b e, h => by
    obtain ⟨_, nm, Ap, np, cp, Ab, cb, Ae, ce, v6, v7, v8, rfl, _⟩ := h
    intro u hu
    simp only [List.mem_cons, List.not_mem_nil, or_false] at hu
    rcases hu with rfl | rfl | rfl | rfl | rfl | rfl | rfl | rfl | rfl <;> rfl
theorem NdCells.keep {w w' : World} {B B' : Nat} (hB : B ≤ B') (hk : ∀ p : Addr, p.block < B → w'.cell? p = w.cell? p) {cs : List Value} : ∀ {n : Nd}, NdCells w B cs n → NdCells w' B' cs n
  | .mk k x b e, h => by
    obtain ⟨h0, nm, Ap, np, cp, Ab, cb, Ae, ce, v6, v7, v8, hc, hb, he⟩ := h
    exact ⟨h0, nm, Ap, np, cp, Ab, cb, Ae, ce, v6, v7, v8, hc, NdsAt.more hB _ _ _ (NdsAt.keep hk _ _ _ hb), NdsAt.more hB _ _ _ (NdsAt.keep hk _ _ _ he)⟩
theorem NdsRow.keep {w w' : World} {B B' : Nat} (hB : B ≤ B') (hk : ∀ p : Addr, p.block < B → w'.cell? p = w.cell? p) : ∀ {l : List Nd} {row : List Value}, NdsRow w B row l → NdsRow w' B' row l
  | [], _, h => h
  | n :: r, row, h => by
    obtain ⟨cs, rest, rfl, hc, hr⟩ := h
    exact ⟨cs, rest, rfl, hc.keep hB hk, NdsRow.keep hB hk hr⟩
theorem NdsRow.len {w : World} {B : Nat} : ∀ {l : List Nd} {row : List Value}, NdsRow w B row l → row.length = l.length * 9
  | [], _, h => by rw [show _ = [] from h]; rfl
  | n :: r, row, h => by
    obtain ⟨cs, rest, rfl, hc, hr⟩ := h
    rw [List.length_append, hc.len, hr.len, List.length_cons]; omega
theorem NdsRow.one {w : World} {B : Nat} : ∀ {l : List Nd} {row : List Value}, NdsRow w B row l → ∀ u ∈ row, u.oneCell' = true
  | [], _, h => by rw [show _ = [] from h]; intro u hu; cases hu
  | n :: r, row, h => by
    obtain ⟨cs, rest, rfl, hc, hr⟩ := h
    intro u hu
    rcases List.mem_append.1 hu with h | h
    · exact hc.one u h
    · exact hr.one u h
theorem NdsRow.app {w : World} {B : Nat} {l2 : List Nd} {row2 : List Value} (h2 : NdsRow w B row2 l2) : ∀ {l : List Nd} {row : List Value}, NdsRow w B row l → NdsRow w B (row ++ row2) (l ++ l2)
  | [], _, h => by rw [show _ = [] from h]; exact h2
  | n :: r, row, h => by
    obtain ⟨cs, rest, rfl, hc, hr⟩ := h
    exact ⟨cs, rest ++ row2, by rw [List.append_assoc], hc, NdsRow.app h2 hr⟩
theorem NdCells.at_ {w : World} {B : Nat} {cs : List Value} {p : Addr} (hp : p.block < B) (hc : ∀ j u, cs[j]? = some u → w.cell? (p.add j) = some u) : ∀ {n : Nd}, NdCells w B cs n → NdAt w B p n
  | .mk k x b e, h => by
    obtain ⟨h0, nm, Ap, np, cp, Ab, cb, Ae, ce, v6, v7, v8, rfl, hb, he⟩ := h
    have ea : ∀ j, p.add (j + 1) = ⟨p.block, p.off + (j + 1), none⟩ := fun j => Addr.add_succ' _ _
    unfold NdAt
    refine ⟨⟨hp, h0⟩, hc 0 _ rfl, ?_, nm, Ap, np, cp, Ab, cb, Ae, ce, v6, v7, v8, ?_, ?_, ?_, ?_, ?_, ?_, ?_, hb, he⟩
    · rw [← ea 0]; exact hc 1 _ rfl
    · rw [← ea 1]; exact hc 2 _ rfl
    · rw [← ea 2]; exact hc 3 _ rfl
    · rw [← ea 3]; exact hc 4 _ rfl
    · rw [← ea 4]; exact hc 5 _ rfl
    · rw [← ea 5]; exact hc 6 _ rfl
    · rw [← ea 6]; exact hc 7 _ rfl
    · rw [← ea 7]; exact hc 8 _ rfl
theorem NdsRow.at_ {w : World} {B : Nat} {ad : Addr} (hp : ad.block < B) : ∀ {l : List Nd} {row : List Value} (i : Nat), NdsRow w B row l → (∀ j u, row[j]? = some u → w.cell? (ad.add (i * 9 + j)) = some u) → NdsAt w B (some ad) i l
  | [], _, _, _, _ => by unfold NdsAt; trivial
  | n :: r, row, i, h, hc => by
    obtain ⟨cs, rest, rfl, hcs, hr⟩ := h
    have hl := hcs.len
    unfold NdsAt
    refine ⟨⟨ad, rfl, hcs.at_ (by rw [block_of_add]; exact hp) fun j u hu => ?_⟩, NdsRow.at_ hp (i + 1) hr fun j u hu => ?_⟩
    · rw [add_of_add]
      have hj := (List.getElem?_eq_some_iff.1 hu).1
      exact hc j u (by rw [List.getElem?_append_left hj]; exact hu)
    · have := hc (9 + j) u (by rw [List.getElem?_append_right (by omega), hl, show 9 + j - 9 = j by omega]; exact hu)
      rw [show (i + 1) * 9 + j = i * 9 + (9 + j) by omega]
      exact this
theorem nds_row {w : World} {B : Nat} {A : Option Addr} : ∀ (l : List Nd) (i : Nat), NdsAt w B A i l → ∃ row, NdsRow w B row l ∧ (l ≠ [] → ∃ ad, A = some ad ∧ ad.block < B) ∧ ∀ ad, A = some ad → ∀ j u, row[j]? = some u → w.cell? (ad.add (i * 9 + j)) = some u
  | [], i, _ => ⟨[], rfl, fun h => absurd rfl h, fun ad _ j u hu => by simp at hu⟩
  | .mk k x b e :: r, i, h => by
    unfold NdsAt at h
    obtain ⟨⟨ad, rfl, hn⟩, hr⟩ := h
    obtain ⟨rest, hrow, _, hcell⟩ := nds_row r (i + 1) hr
    unfold NdAt at hn
    obtain ⟨h0, h1, h2, nm, Ap, np, cp, Ab, cb, Ae, ce, v6, v7, v8, g2, g3, g4, g5, g6, g7, g8, hb, he⟩ := hn
    refine ⟨[.int .i64 k, .string x, .string nm, .slice Ap np cp, .slice Ab b.length cb, .slice Ae e.length ce, .int .i64 v6, .int .i64 v7, .int .i64 v8] ++ rest, ⟨_, rest, rfl, ⟨h0.2, nm, Ap, np, cp, Ab, cb, Ae, ce, v6, v7, v8, rfl, hb, he⟩, hrow⟩, fun _ => ⟨ad, rfl, by have := h0.1; rwa [block_of_add] at this⟩, ?_⟩
    intro ad' hA j u hu
    cases hA
    have ea : ∀ j, (⟨(ad.add (i * 9)).block, (ad.add (i * 9)).off + (j + 1), none⟩ : Addr) = ad.add (i * 9 + (j + 1)) := fun j => by rw [← add_of_add, Addr.add_succ']
    rcases Nat.lt_or_ge j 9 with hj | hj
    · rw [List.getElem?_append_left (by simpa using hj)] at hu
      match j, hj with
      | 0, _ => obtain rfl : Value.int .i64 k = u := by simpa using hu
                exact h1
      | 1, _ => obtain rfl : Value.string x = u := by simpa using hu
                rw [← ea 0]; exact h2
      | 2, _ => obtain rfl : Value.string nm = u := by simpa using hu
                rw [← ea 1]; exact g2
      | 3, _ => obtain rfl : Value.slice Ap np cp = u := by simpa using hu
                rw [← ea 2]; exact g3
      | 4, _ => obtain rfl : Value.slice Ab b.length cb = u := by simpa using hu
                rw [← ea 3]; exact g4
      | 5, _ => obtain rfl : Value.slice Ae e.length ce = u := by simpa using hu
                rw [← ea 4]; exact g5
      | 6, _ => obtain rfl : Value.int .i64 v6 = u := by simpa using hu
                rw [← ea 5]; exact g6
      | 7, _ => obtain rfl : Value.int .i64 v7 = u := by simpa using hu
                rw [← ea 6]; exact g7
      | 8, _ => obtain rfl : Value.int .i64 v8 = u := by simpa using hu
                rw [← ea 7]; exact g8
    · rw [List.getElem?_append_right (by simpa using hj)] at hu
      have := hcell ad rfl (j - 9) u (by simpa using hu)
      rw [show (i + 1) * 9 + (j - 9) = i * 9 + j by omega] at this
      exact this
theorem nds_reads {w : World} {B : Nat} {A : Option Addr} (l : List Nd) (h : NdsAt w B A 0 l) : ∃ row, NdsRow w B row l ∧ Reads w B 9 A l.length row := by
  obtain ⟨row, hr, ha, hc⟩ := nds_row l 0 h
  refine ⟨row, hr, hr.len, fun hn => ?_⟩
  obtain ⟨ad, rfl, hb⟩ := ha (fun e => by rw [e] at hn; simp at hn)
  refine ⟨ad, rfl, hb, fun j u hu => ?_⟩
  have := hc ad rfl j u hu
  rwa [Nat.zero_mul, Nat.zero_add] at this
theorem nds_of_reads {w : World} {B : Nat} {A : Option Addr} {l : List Nd} {row : List Value} (hr : NdsRow w B row l) (h : Reads w B 9 A l.length row) : NdsAt w B A 0 l := by
  rcases Nat.eq_zero_or_pos l.length with h0 | h0
  · obtain rfl := List.eq_nil_of_length_eq_zero h0
    unfold NdsAt; trivial
  · obtain ⟨ad, rfl, hb, hc⟩ := h.2 h0
    exact hr.at_ hb 0 fun j u hu => by rw [Nat.zero_mul, Nat.zero_add]; exact hc j u hu
theorem ndsSz_app : ∀ (a b : List Nd), ndsSz (a ++ b) = ((ndsSz a).1 + (ndsSz b).1, (ndsSz a).2 + (ndsSz b).2)
  | [], b => by simp [ndsSz]
  | n :: r, b => by
    rw [List.cons_append, ndsSz, ndsSz_app r b, ndsSz]
    simp [Nat.add_assoc]
theorem ndsNum_app : ∀ (a b : List Nd), ndsNum (a ++ b) = ndsNum a + ndsNum b
  | [], b => by simp [ndsNum]
  | n :: r, b => by
    rw [List.cons_append, ndsNum, ndsNum_app r b, ndsNum]
    omega

/-- sums of a pair, so far -/
def duo (a b c d : Int) (k : Nat) : Int × Int := if k = 0 then (0, 0) else if k = 1 then (a, b) else (a + c, b + d)
def cI (p : Int × Int) : Value := .complex .f64 (fW p.1) (fW p.2)
set_option maxHeartbeats 800000 in
theorem sum_two (g : Nat) (cap : Nat) (a b c d : Int) (w : World) (hb1 : a.natAbs ≤ 1099511627776) (hb2 : b.natAbs ≤ 1099511627776) (hb3 : c.natAbs ≤ 1099511627776) (hb4 : d.natAbs ≤ 1099511627776)
    (h0 : w.cell? ⟨g, 0, none⟩ = some (cI (a, b))) (h1 : w.cell? ⟨g, 1, none⟩ = some (cI (c, d))) :
    Calls Try.prog 7 #[.slice (some ⟨g, 0, none⟩) 2 cap] w fun e w' => e = .returned (cI (a + c, b + d)) ∧ w = w' := by
  have H0 := hid fW_zero
  have Hs : ∀ k, k < 2 → ∃ p : Int × Int, w.cell? ⟨g, k, none⟩ = some (cI p) ∧ p.1.natAbs ≤ 1099511627776 ∧ p.2.natAbs ≤ 1099511627776 ∧ duo a b c d (k + 1) = ((duo a b c d k).1 + p.1, (duo a b c d k).2 + p.2) ∧ (duo a b c d k).1.natAbs ≤ 1099511627776 ∧ (duo a b c d k).2.natAbs ≤ 1099511627776 := by
    intro k hk
    match k, hk with
    | 0, _ => exact ⟨(a, b), h0, hb1, hb2, by simp [duo], by simp [duo], by simp [duo]⟩
    | 1, _ => exact ⟨(c, d), h1, hb3, hb4, by simp [duo], by simpa [duo] using hb1, by simpa [duo] using hb2⟩
  have HS := hid Hs
  clear Hs h0 h1
  go_enter Try.func7, Try.ntmps7
  go_wp2
  go_loop [3, 8] (fun v i => ∃ k : Nat, k ≤ 2 ∧ i = .int .i64 k ∧ v = cI (duo a b c d k)) (fun _ i => 2 - (intOf i).toNat)
  case atStart => exact ⟨0, Nat.zero_le _, rfl, by show _ = Value.complex .f64 (fW 0) (fW 0); rw [H0.out]⟩
  case round =>
    obtain ⟨k, hk, rfl, rfl⟩ := hrel
    by_cases hlt : k < 2
    · obtain ⟨p, hc, hp1, hp2, hdu, hq1, hq2⟩ := HS.out k hlt
      obtain ⟨q, hq⟩ : ∃ q, duo a b c d k = q := ⟨_, rfl⟩
      rw [hq] at hdu hq1 hq2 ⊢
      have e1 := fW_add q.1 p.1 (by omega) (by omega) (by omega)
      have e2 := fW_add q.2 p.2 (by omega) (by omega) (by omega)
      have e3 : Hid (cI (duo a b c d (k + 1)) = .complex .f64 (fW (q.1 + p.1)) (fW (q.2 + p.2))) := hid (by rw [hdu]; rfl)
      unfold cI at hc ⊢
      obtain ⟨a1, ha1⟩ : ∃ a1, fW q.1 = a1 := ⟨_, rfl⟩
      obtain ⟨a2, ha2⟩ : ∃ a2, fW q.2 = a2 := ⟨_, rfl⟩
      obtain ⟨b1, hb1⟩ : ∃ b1, fW p.1 = b1 := ⟨_, rfl⟩
      obtain ⟨b2, hb2⟩ : ∃ b2, fW p.2 = b2 := ⟨_, rfl⟩
      obtain ⟨c1, hc1⟩ : ∃ c1, fW (q.1 + p.1) = c1 := ⟨_, rfl⟩
      obtain ⟨c2, hc2⟩ : ∃ c2, fW (q.2 + p.2) = c2 := ⟨_, rfl⟩
      rw [ha1, hb1, hc1] at e1
      rw [ha2, hb2, hc2] at e2
      rw [hc1, hc2] at e3
      rw [hb1, hb2] at hc
      rw [ha1, ha2]
      have f1 : FloatKind.f64.format.add a1 b1 = some c1 := e1
      have f2 : FloatKind.f64.format.add a2 b2 = some c2 := e2
      clear e1 e2 ha1 ha2 hb1 hb2 hc1 hc2 hq hdu hp1 hp2 hq1 hq2
      have hadd := run_cadd' (P := Try.prog) 24 a1 a2 b1 b2 c1 c2 f1 f2
      clear f1 f2
      go_wp2
      go_round
      case rel => exact ⟨k + 1, by omega, by go_num, e3.out.symm⟩
      case measure => simp [intOf]; omega
    · obtain rfl : k = 2 := by omega
      have hall : Hid (duo a b c d 2 = (a + c, b + d)) := hid rfl
      rw [hall.out]
      unfold cI
      go_wp2
      go_ret
      exact ⟨rfl, rfl⟩
end Go.Proofs.Ythhaannlbkgefaa
