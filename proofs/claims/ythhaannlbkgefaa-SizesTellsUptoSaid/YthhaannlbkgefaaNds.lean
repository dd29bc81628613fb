/- Trees of nodes in memory; sizes.one, Nodes. -/
import Derived.Test.YthhaannlbkgefaaSiz
import Derived.Deep.RegionHeld3
import Derived.Outline
set_option linter.unusedVariables false
namespace Go.Proofs.Ythhaannlbkgefaa
open Go.RowKit

/-- a node: its kind, its text, what is in it -/
inductive Nd where
  | mk (k : Int) (x : ByteArray) (b e : List Nd)
def oneP (k : Int) (x : ByteArray) : Nat × Nat := if k = 1 then (x.size, 0) else if k = 2 then (0, 1) else (0, 0)
mutual
/-- octets and actions -/
def Nd.sz : Nd → Nat × Nat
  | .mk k x b e => ((oneP k x).1 + (ndsSz b).1 + (ndsSz e).1, (oneP k x).2 + (ndsSz b).2 + (ndsSz e).2)
def ndsSz : List Nd → Nat × Nat
  | [] => (0, 0)
  | n :: r => (n.sz.1 + (ndsSz r).1, n.sz.2 + (ndsSz r).2)
end
mutual
/-- so many nodes -/
def Nd.num : Nd → Nat
  | .mk _ _ b e => 1 + ndsNum b + ndsNum e
def ndsNum : List Nd → Nat
  | [] => 0
  | n :: r => n.num + ndsNum r
end
mutual
/-- the node lies at p, all below block B -/
def NdAt (w : World) (B : Nat) (p : Addr) : Nd → Prop
  | .mk k x b e => (p.block < B ∧ x.size ≤ 1099511627776) ∧ w.cell? p = some (.int .i64 k) ∧ w.cell? ⟨p.block, p.off + 1, none⟩ = some (.string x) ∧
    ∃ (nm : ByteArray) (Ap : Option Addr) (np cp : Nat) (Ab : Option Addr) (cb : Nat) (Ae : Option Addr) (ce : Nat) (v6 v7 v8 : Int), w.cell? ⟨p.block, p.off + 2, none⟩ = some (.string nm) ∧ w.cell? ⟨p.block, p.off + 3, none⟩ = some (.slice Ap np cp) ∧
      w.cell? ⟨p.block, p.off + 4, none⟩ = some (.slice Ab b.length cb) ∧ w.cell? ⟨p.block, p.off + 5, none⟩ = some (.slice Ae e.length ce) ∧
      w.cell? ⟨p.block, p.off + 6, none⟩ = some (.int .i64 v6) ∧ w.cell? ⟨p.block, p.off + 7, none⟩ = some (.int .i64 v7) ∧ w.cell? ⟨p.block, p.off + 8, none⟩ = some (.int .i64 v8) ∧
      NdsAt w B Ab 0 b ∧ NdsAt w B Ae 0 e
def NdsAt (w : World) (B : Nat) (A : Option Addr) (i : Nat) : List Nd → Prop
  | [] => True
  | n :: r => (∃ ad, A = some ad ∧ NdAt w B (ad.add (i * 9)) n) ∧ NdsAt w B A (i + 1) r
end
mutual
theorem NdAt.keep {w w' : World} {B : Nat} (h : ∀ p : Addr, p.block < B → w'.cell? p = w.cell? p) : ∀ (n : Nd) (p : Addr), NdAt w B p n → NdAt w' B p n
  | .mk k x b e, p, hn => by
    unfold NdAt at hn ⊢
    obtain ⟨h0, h1, h2, nm, Ap, np, cp, Ab, cb, Ae, ce, v6, v7, v8, g2, g3, g4, g5, g6, g7, g8, hb, he⟩ := hn
    have hj : ∀ j, w'.cell? ⟨p.block, p.off + j, none⟩ = w.cell? ⟨p.block, p.off + j, none⟩ := fun j => h ⟨p.block, p.off + j, none⟩ h0.1
    exact ⟨h0, (h _ h0.1).trans h1, (hj 1).trans h2, nm, Ap, np, cp, Ab, cb, Ae, ce, v6, v7, v8, (hj 2).trans g2, (hj 3).trans g3, (hj 4).trans g4, (hj 5).trans g5, (hj 6).trans g6, (hj 7).trans g7, (hj 8).trans g8, NdsAt.keep h b Ab 0 hb, NdsAt.keep h e Ae 0 he⟩
theorem NdsAt.keep {w w' : World} {B : Nat} (h : ∀ p : Addr, p.block < B → w'.cell? p = w.cell? p) : ∀ (l : List Nd) (A : Option Addr) (i : Nat), NdsAt w B A i l → NdsAt w' B A i l
  | [], _, _, _ => by unfold NdsAt; trivial
  | n :: r, A, i, hl => by
    unfold NdsAt at hl ⊢
    obtain ⟨⟨ad, e, hn⟩, hr⟩ := hl
    exact ⟨⟨ad, e, NdAt.keep h n _ hn⟩, NdsAt.keep h r A (i + 1) hr⟩
end
theorem NdsAt.at_ {w : World} {B : Nat} {A : Option Addr} : ∀ (l : List Nd) (i k : Nat) (hk : k < l.length), NdsAt w B A i l → ∃ ad, A = some ad ∧ NdAt w B (ad.add ((i + k) * 9)) l[k]
  | n :: r, i, 0, _, h => by unfold NdsAt at h; exact h.1
  | n :: r, i, k + 1, hk, h => by
    unfold NdsAt at h
    have := NdsAt.at_ r (i + 1) k (by simpa using hk) h.2
    rw [show i + (k + 1) = i + 1 + k by omega]
    exact this
theorem ndsSz_take : ∀ (l : List Nd) (k : Nat) (h : k < l.length), ndsSz (l.take (k + 1)) = ((ndsSz (l.take k)).1 + l[k].sz.1, (ndsSz (l.take k)).2 + l[k].sz.2)
  | n :: r, 0, _ => by simp [ndsSz]
  | n :: r, k + 1, h => by
    rw [List.take_succ_cons, List.take_succ_cons, ndsSz, ndsSz, ndsSz_take r k (by simpa using h)]
    simp [Nat.add_assoc]
theorem ndsSz_le : ∀ (l : List Nd) (k : Nat), (ndsSz (l.take k)).1 ≤ (ndsSz l).1 ∧ (ndsSz (l.take k)).2 ≤ (ndsSz l).2
  | [], k => by simp [ndsSz]
  | n :: r, 0 => by simp [ndsSz]
  | n :: r, k + 1 => by
    have := ndsSz_le r k
    rw [List.take_succ_cons, ndsSz, ndsSz]
    simp only; omega
theorem ndsNum_at : ∀ (l : List Nd) (k : Nat) (h : k < l.length), l[k].num ≤ ndsNum l
  | n :: r, 0, _ => by simp [ndsNum]
  | n :: r, k + 1, h => by
    have := ndsNum_at r k (by simpa using h)
    simp only [List.getElem_cons_succ, ndsNum]; omega
theorem ndsNum_len : ∀ (l : List Nd), l.length ≤ ndsNum l
  | [] => by simp [ndsNum]
  | .mk k x b e :: r => by
    have := ndsNum_len r
    simp only [List.length_cons, ndsNum, Nd.num]; omega

set_option maxHeartbeats 800000 in
theorem szOne_any (k : Int) (x nm : ByteArray) (Ap : Option Addr) (np cp : Nat) (Ab : Option Addr) (nb cb : Nat) (Ae : Option Addr) (ne ce : Nat) (v6 v7 v8 : Int) (w : World) (hx : x.size ≤ 1099511627776) :
    Calls Try.prog 14 #[.agg #[.int .i64 k, .string x, .string nm, .slice Ap np cp, .slice Ab nb cb, .slice Ae ne ce, .int .i64 v6, .int .i64 v7, .int .i64 v8]] w fun e w' => e = .returned (cV (oneP k x)) ∧ Below w.heap.size w w' := by
  have hb : Below w.heap.size w (w.alloc (.cells #[.int .i64 k, .string x, .string nm, .slice Ap np cp, .slice Ab nb cb, .slice Ae ne ce, .int .i64 v6, .int .i64 v7, .int .i64 v8] 41)) := (Below.refl _ _).alloc (Nat.le_refl _) _
  have H0 := hid fW_zero
  have H1 : Hid (fW 1 = 4607182418800017408) := hid (by decide)
  by_cases h1 : k = 1
  · subst h1
    have HO : Hid (cV (oneP 1 x) = .complex .f64 (fW x.size) 0) := hid (by unfold cV oneP; rw [if_pos rfl]; show Value.complex .f64 (fW x.size) (fW 0) = _; rw [H0.out])
    obtain ⟨f, hf⟩ : ∃ f, fW (x.size : Int) = f := ⟨_, rfl⟩
    have hcv : floatOfInt FloatKind.f64 (x.size : Int) = f := hf
    have HF : Hid (cV (oneP 1 x) = .complex .f64 f 0) := hid (by rw [HO.out, hf])
    clear hf
    rw [HF.out]
    go_enter Try.func14, Try.ntmps14
    go_wp2
    go_ret
    exact ⟨rfl, hb⟩
  · by_cases h2 : k = 2
    · subst h2
      have HO : Hid (cV (oneP 2 x) = .complex .f64 0 4607182418800017408) := hid (by unfold cV oneP; rw [if_neg (by decide), if_pos rfl]; show Value.complex .f64 (fW 0) (fW 1) = _; rw [H0.out, H1.out])
      rw [HO.out]
      go_enter Try.func14, Try.ntmps14
      go_wp2
      go_ret
      exact ⟨rfl, hb⟩
    · have HO : Hid (cV (oneP k x) = .complex .f64 0 0) := hid (by unfold cV oneP; rw [if_neg h1, if_neg h2]; show Value.complex .f64 (fW 0) (fW 0) = _; rw [H0.out])
      have b1 : (k == 1) = false := beq_eq_false_iff_ne.2 h1
      have b2 : (k == 2) = false := beq_eq_false_iff_ne.2 h2
      rw [HO.out]
      go_enter Try.func14, Try.ntmps14
      go_wp2
      go_ret
      exact ⟨rfl, hb⟩
theorem below_after {B : Nat} {w0 W w' : World} (h1 : Below B w0 W) (hlt : B < W.heap.size) (h2 : Below W.heap.size W w') : Below B w0 w' := h1.trans (h2.mono (Nat.le_of_lt hlt))
theorem cell_after {B j : Nat} {W w' : World} {v : Value} (h2 : Below W.heap.size W w') (hlt : B < W.heap.size) (hc : W.cell? ⟨B, j, none⟩ = some v) : w'.cell? ⟨B, j, none⟩ = some v := (h2.cell (p := ⟨B, j, none⟩) hlt).trans hc
theorem size_after {B : Nat} {W w' : World} (h2 : Below W.heap.size W w') (hlt : B < W.heap.size) : B < w'.heap.size := Nat.lt_of_lt_of_le hlt h2.size
theorem alloc_plain (W : World) (o : Obj) : Below W.heap.size W (W.alloc o) := (Below.refl _ _).alloc (Nat.le_refl _) o
theorem alloc_drew (W : World) (o : Obj) : Below W.heap.size W (W.alloc o).drew := ((Below.refl _ _).alloc (Nat.le_refl _) o).drew
/-- what Nodes answers at a tree -/
def RNds (w : World) (l : List Nd) (e : Ending) (w' : World) : Prop := e = .returned (cV (ndsSz l)) ∧ Below w.heap.size w w'

set_option maxRecDepth 100000 in
set_option maxHeartbeats 3200000 in
theorem nodes_key : ∀ (m : Nat) (l : List Nd), ndsNum l = m → ndsNum l ≤ 1048576 → (ndsSz l).1 < 2 ^ 50 → (ndsSz l).2 < 2 ^ 50 → ∀ (A : Option Addr) (cap : Nat) (w : World) (B : Nat), NdsAt w B A 0 l → B ≤ w.heap.size →
    Calls Try.prog 8 #[.slice A l.length cap] w (RNds w l) := by
  intro m
  induction m using Nat.strongRecOn with
  | ind m ih =>
    intro l hnum hm hs1 hs2 A cap w B hR hB
    have hlen := ndsNum_len l
    have HR := hid hR
    have Hle := hid (ndsSz_le l)
    have Htk := hid (ndsSz_take l)
    have Hat := hid (ndsNum_at l)
    have IH := hid ih
    clear hR ih
    obtain ⟨n, hnn⟩ : ∃ n, l.length = n := ⟨_, rfl⟩
    have Hn := hid hnn
    have hnb : n ≤ 1048576 := by omega
    rw [hnn]
    clear hnn hlen
    have H0 := hid fW_zero
    go_enter Try.func8, Try.ntmps8
    go_wp2
    go_loopw [3, 8] (fun c i wr => ∃ k : Nat, k ≤ n ∧ i = .int .i64 k ∧ c = cV (ndsSz (l.take k)) ∧ Below w.heap.size w wr) (fun _ i _ => n - (intOf i).toNat)
    case atStart => exact ⟨0, Nat.zero_le _, rfl, by rw [List.take_zero]; show _ = Value.complex .f64 (fW 0) (fW 0); rw [H0.out], Below.refl _ _⟩
    case round =>
      obtain ⟨k, hk, rfl, rfl, hbw⟩ := hrel
      by_cases hlt : k < n
      · have hkl : k < l.length := by rw [Hn.out]; exact hlt
        obtain ⟨ad, rfl, hnd⟩ := NdsAt.at_ l 0 k hkl (NdsAt.keep (w' := wr) (fun p hp => (hbw.mono hB).cell hp) l A 0 HR.out)
        rw [Nat.zero_add] at hnd
        have hat := Hat.out k hkl
        have htk := Htk.out k hkl
        have hle := Hle.out (k + 1)
        obtain ⟨p, hp⟩ : ∃ p, l[k] = p := ⟨_, rfl⟩
        rw [hp] at hnd hat htk
        obtain ⟨kd, x, b, e⟩ := p
        unfold NdAt at hnd
        obtain ⟨h0, c0, c1, nm, Ap, np, cp, Ab, cb, Ae, ce, v6, v7, v8, c2, c3, c4, c5, c6, c7, c8, hb, he⟩ := hnd
        simp only [Nd.num] at hat
        rw [htk] at hle
        simp only [Nd.sz] at hle htk
        have hxz : x.size ≤ 1099511627776 := h0.2
        have Hone := hid (fun W => szOne_any kd x nm Ap np cp Ab b.length cb Ae e.length ce v6 v7 v8 W hxz)
        have Hbb := hid (fun (W : World) (h : Below wr.heap.size wr W) => IH.out (ndsNum b) (by omega) b rfl (by omega) (by omega) (by omega) Ab cb W B (NdsAt.keep (fun p hp => (h.mono (by have := hbw.size; omega)).cell hp) b Ab 0 hb) (by have := hbw.size; have := h.size; omega))
        have Hee := hid (fun (W : World) (h : Below wr.heap.size wr W) => IH.out (ndsNum e) (by omega) e rfl (by omega) (by omega) (by omega) Ae ce W B (NdsAt.keep (fun p hp => (h.mono (by have := hbw.size; omega)).cell hp) e Ae 0 he) (by have := hbw.size; have := h.size; omega))
        obtain ⟨nb, hnb'⟩ : ∃ nb, b.length = nb := ⟨_, rfl⟩
        obtain ⟨ne, hne'⟩ : ∃ ne, e.length = ne := ⟨_, rfl⟩
        rw [hnb'] at c4 Hone Hbb
        rw [hne'] at c5 Hone Hee
        clear hnb' hne' hp hkl hb he hat
        obtain ⟨q, hq⟩ : ∃ q, ndsSz (l.take k) = q := ⟨_, rfl⟩
        obtain ⟨po, hpo⟩ : ∃ po, oneP kd x = po := ⟨_, rfl⟩
        obtain ⟨pb, hpb⟩ : ∃ pb, ndsSz b = pb := ⟨_, rfl⟩
        obtain ⟨pe, hpe⟩ : ∃ pe, ndsSz e = pe := ⟨_, rfl⟩
        rw [hpo, hpb, hpe, hq] at hle htk
        rw [hpo] at Hone
        unfold RNds at Hbb Hee
        rw [hpb] at Hbb
        rw [hpe] at Hee
        rw [hq]
        have Hv : Hid (cV (sumP [q, po, pb, pe]) = cV (ndsSz (l.take (k + 1)))) := hid (by
          rw [htk]; congr 1; simp only [sumP, List.foldl_cons, List.foldl_nil, Prod.mk.injEq]; omega)
        have Hsum : Hid (∀ W : World, Calls Try.prog 7 #[.slice (some ⟨W.heap.size, 0, none⟩) 4 4] (W.alloc (.cells #[cV q, cV po, cV pb, cV pe] 24)) fun e w' => e = .returned (cV (ndsSz (l.take (k + 1)))) ∧ (W.alloc (.cells #[cV q, cV po, cV pb, cV pe] 24)) = w') := hid (fun W => by
          have hr : Reads (W.alloc (.cells #[cV q, cV po, cV pb, cV pe] 24)) (W.heap.size + 1) 1 (some ⟨W.heap.size, 0, none⟩) [q, po, pb, pe].length ([q, po, pb, pe].map cV) := by
            refine ⟨rfl, fun _ => ⟨_, rfl, by simp, fun j u hu => ?_⟩⟩
            rw [Addr.add_lit, Nat.zero_add]
            show (W.alloc (.cells #[cV q, cV po, cV pb, cV pe] 24)).cell? ⟨W.heap.size, j, none⟩ = _
            rw [World.cell?_alloc_mark]
            rw [List.map_cons, List.map_cons, List.map_cons, List.map_cons, List.map_nil] at hu
            simpa using hu
          have := sum_any (some ⟨W.heap.size, 0, none⟩) 4 [q, po, pb, pe] _ _ hr (by simp) (by simp only [sumP, List.foldl_cons, List.foldl_nil]; omega) (by simp only [sumP, List.foldl_cons, List.foldl_nil]; omega)
          rw [Hv.out] at this
          exact this)
        have hs0 := Blk.new wr 41 #[.int .i64 kd, .string x, .string nm, .slice Ap np cp, .slice Ab nb cb, .slice Ae ne ce, .int .i64 v6, .int .i64 v7, .int .i64 v8]
        have HS0 := hid hs0
        clear hq hpo hpb hpe htk hle h0 hs0 Hv
        obtain ⟨r1, hr1⟩ : ∃ r1, fW ((ndsSz (l.take (k + 1))).1 : Int) = r1 := ⟨_, rfl⟩
        obtain ⟨r2, hr2⟩ : ∃ r2, fW ((ndsSz (l.take (k + 1))).2 : Int) = r2 := ⟨_, rfl⟩
        have HRes : Hid (Value.complex .f64 r1 r2 = cV (ndsSz (l.take (k + 1)))) := hid (by unfold cV; rw [hr1, hr2])
        simp only [cV] at Hone Hbb Hee Hsum ⊢
        rw [hr1, hr2] at Hsum
        clear hr1 hr2
        generalize fW (q.1 : Int) = a1 at Hsum ⊢
        generalize fW (q.2 : Int) = a2 at Hsum ⊢
        generalize fW (po.1 : Int) = o1 at Hsum Hone
        generalize fW (po.2 : Int) = o2 at Hsum Hone
        generalize fW (pb.1 : Int) = b1 at Hsum Hbb
        generalize fW (pb.2 : Int) = b2 at Hsum Hbb
        generalize fW (pe.1 : Int) = e1 at Hsum Hee
        generalize fW (pe.2 : Int) = e2 at Hsum Hee
        go_wp2_with fail
        go_region_held3 (fun w' => w'.cell? ⟨wr.heap.size, 0, none⟩ = some (.int .i64 kd) ∧ w'.cell? ⟨wr.heap.size, 1, none⟩ = some (.string x) ∧ w'.cell? ⟨wr.heap.size, 2, none⟩ = some (.string nm) ∧ w'.cell? ⟨wr.heap.size, 3, none⟩ = some (.slice Ap np cp) ∧ w'.cell? ⟨wr.heap.size, 4, none⟩ = some (.slice Ab nb cb) ∧ w'.cell? ⟨wr.heap.size, 5, none⟩ = some (.slice Ae ne ce) ∧ w'.cell? ⟨wr.heap.size, 6, none⟩ = some (.int .i64 v6) ∧ w'.cell? ⟨wr.heap.size, 7, none⟩ = some (.int .i64 v7) ∧ w'.cell? ⟨wr.heap.size, 8, none⟩ = some (.int .i64 v8) ∧ Below wr.heap.size wr w' ∧ wr.heap.size < w'.heap.size)
          (first
            | exact ⟨(HS0.out.cell 0).trans rfl, (HS0.out.cell 1).trans rfl, (HS0.out.cell 2).trans rfl, (HS0.out.cell 3).trans rfl, (HS0.out.cell 4).trans rfl, (HS0.out.cell 5).trans rfl, (HS0.out.cell 6).trans rfl, (HS0.out.cell 7).trans rfl, (HS0.out.cell 8).trans rfl, alloc_drew _ _, by simp⟩
            | (go_split_ands
               exact ⟨cell_after hbk (by assumption) (by assumption), cell_after hbk (by assumption) (by assumption), cell_after hbk (by assumption) (by assumption), cell_after hbk (by assumption) (by assumption), cell_after hbk (by assumption) (by assumption), cell_after hbk (by assumption) (by assumption), cell_after hbk (by assumption) (by assumption), cell_after hbk (by assumption) (by assumption), cell_after hbk (by assumption) (by assumption), below_after (by assumption) (by assumption) hbk, size_after hbk (by assumption)⟩)
            | (go_split_ands
               exact ⟨cell_after (alloc_drew _ _) (by assumption) (by assumption), cell_after (alloc_drew _ _) (by assumption) (by assumption), cell_after (alloc_drew _ _) (by assumption) (by assumption), cell_after (alloc_drew _ _) (by assumption) (by assumption), cell_after (alloc_drew _ _) (by assumption) (by assumption), cell_after (alloc_drew _ _) (by assumption) (by assumption), cell_after (alloc_drew _ _) (by assumption) (by assumption), cell_after (alloc_drew _ _) (by assumption) (by assumption), cell_after (alloc_drew _ _) (by assumption) (by assumption), below_after (by assumption) (by assumption) (alloc_drew _ _), size_after (alloc_drew _ _) (by assumption)⟩)
            | (go_split_ands
               exact ⟨cell_after (alloc_plain _ _) (by assumption) (by assumption), cell_after (alloc_plain _ _) (by assumption) (by assumption), cell_after (alloc_plain _ _) (by assumption) (by assumption), cell_after (alloc_plain _ _) (by assumption) (by assumption), cell_after (alloc_plain _ _) (by assumption) (by assumption), cell_after (alloc_plain _ _) (by assumption) (by assumption), cell_after (alloc_plain _ _) (by assumption) (by assumption), cell_after (alloc_plain _ _) (by assumption) (by assumption), cell_after (alloc_plain _ _) (by assumption) (by assumption), below_after (by assumption) (by assumption) (alloc_plain _ _), size_after (alloc_plain _ _) (by assumption)⟩)
            | (go_split_ands
               refine ⟨?_, ?_, ?_, ?_, ?_, ?_, ?_, ?_, ?_, ?_, ?_⟩ <;> first | assumption | (simp; omega))
            | go_keep)
          (first
            | (go_at_call 14; refine (Hone.out _).mono ?_; rintro e' w' ⟨rfl, hbk⟩)
            | (go_at_call 8; (with_reducible refine (Hbb.out _ ?_).mono ?_); (go_split_ands; assumption); rintro e' w' ⟨rfl, hbk⟩)
            | (go_at_call 8; (with_reducible refine (Hee.out _ ?_).mono ?_); (go_split_ands; assumption); rintro e' w' ⟨rfl, hbk⟩)
            | (go_at_call 7; refine (Hsum.out _).mono ?_; rintro e' w' ⟨rfl, rfl⟩))
        all_goals
          go_split_ands
          go_wp2
          go_roundw
          case rel =>
            refine ⟨k + 1, by omega, by go_num, HRes.out, ?_⟩
            exact hbw.trans (Below.mono (by assumption) hbw.size)
          case measure => simp [intOf]; omega
      · obtain rfl : k = n := by omega
        have hall : Hid (l.take k = l) := hid (List.take_of_length_le (by rw [Hn.out]; exact Nat.le_refl _))
        rw [hall.out]
        unfold cV
        go_wp2
        go_ret
        exact ⟨rfl, hbw⟩
theorem nodes_any (l : List Nd) (hm : ndsNum l ≤ 1048576) (hs1 : (ndsSz l).1 < 2 ^ 50) (hs2 : (ndsSz l).2 < 2 ^ 50) (A : Option Addr) (cap : Nat) (w : World) (B : Nat) (hR : NdsAt w B A 0 l) (hB : B ≤ w.heap.size) :
    Calls Try.prog 8 #[.slice A l.length cap] w (RNds w l) := nodes_key _ l rfl hm hs1 hs2 A cap w B hR hB
end Go.Proofs.Ythhaannlbkgefaa
