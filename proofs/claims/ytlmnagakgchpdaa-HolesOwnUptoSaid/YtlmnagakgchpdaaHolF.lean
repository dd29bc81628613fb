/- holes.Fill: it returns, and what it returns is its own. -/
import Derived.Test.YtlmnagakgchpdaaHolB
import Derived.Test.YtlmnagakgchpdaaBldT
import Derived.Test.YtlmnagakgchpdaaBstr
import Derived.Deep.DeepAppendRoom
import Derived.OneCell
set_option linter.unusedVariables false
namespace Go.Proofs.Ytlmnagakgchpdaa
open Go.RowKit

/-- the value is a slice of these texts -/
def TxtsAt (w : World) (B : Nat) (A : Option Addr) (l : List ByteArray) : Prop := Reads w B 1 A l.length (l.map Value.string)
theorem TxtsAt.at_ {w : World} {B : Nat} {A : Option Addr} {l : List ByteArray} (h : TxtsAt w B A l) {k : Nat} (hk : k < l.length) :
    ∃ ad, A = some ad ∧ ad.block < B ∧ w.cell? (ad.add k) = some (.string l[k]) := by
  obtain ⟨ad, e, hb, hc⟩ := h.2 (by omega)
  exact ⟨ad, e, hb, hc k _ (by simp [hk])⟩
/-- the value v owns, from block 'base' on, just these holes -/
def OwnH (w : World) (base : Nat) (v : Value) (l : List Hol) : Prop := w.ownsRow base 31 4 v l.length (holCells l)
theorem OwnH.nil (w : World) (base : Nat) : OwnH w base (.slice none 0 0) [] := World.ownsRow_nil w base _ _
theorem OwnH.less {w : World} {base base' : Nat} {v : Value} {l : List Hol} (h : OwnH w base v l) (hb : base' ≤ base) : OwnH w base' v l := by
  refine ⟨h.1, ?_⟩
  rcases h.2 with h0 | ⟨g, c, cur, e, hg, h1⟩
  · exact .inl h0
  · exact .inr ⟨g, c, cur, e, Nat.le_trans hb hg, h1⟩
theorem OwnH.same {w w' : World} {base g n c : Nat} {l : List Hol} (h : OwnH w base (.slice (some ⟨g, 0, none⟩) n c) l) (e : w'.heap[g]? = w.heap[g]?) : OwnH w' base (.slice (some ⟨g, 0, none⟩) n c) l := by
  refine ⟨h.1, ?_⟩
  rcases h.2 with ⟨h0, _⟩ | ⟨g', cap, cur, e1, hg, hh, r⟩
  · cases h0
  · injection e1 with e1 e2 e3
    injection e1 with e1
    injection e1 with e1
    subst e1
    exact .inr ⟨g, cap, cur, by rw [e2, e3], hg, e.trans hh, r⟩
theorem Bld.setT {b D : Nat} {l : List UInt8} {w : World} (h : Bld b D l w) {g i : Nat} {t : TypeId} {cs : Array Value} (hk : Blk w g t cs) (ht : t ≠ 5) (hg : g ≠ b) (v : Value) : Bld b D l (w.setCell ⟨g, i, none⟩ v) := by
  obtain ⟨h1, h2, p, u, h3, h4, h5⟩ := h
  have hne : u.ownBlock ≠ some g := own_blk_ne h5 hk (fun e => ht e.symm)
  exact ⟨h1, by simpa [World.setCell] using h2, p, u, by rw [Below.heap_setCell _ _ _ _ (fun e => hg e.symm)]; exact h3, h4, ownsRow_setCell_other h5 (a := ⟨g, i, none⟩) hne _⟩
theorem Bld.grown {b D : Nat} {l : List UInt8} {w w' : World} {g : Nat} (h : Bld b D l w) (hg : w.grownBy w' (some g)) (hb : g ≠ b) (hD : g < D) : Bld b D l w' := by
  obtain ⟨h1, h2, p, u, h3, h4, h5⟩ := h
  have hne : u.ownBlock ≠ some g := fun e => by have := OwnB.base h5 g e; omega
  refine ⟨h1, Nat.le_trans h2 hg.size, p, u, by rw [hg.block b (by omega) (fun e => hb (by injection e with e; exact e.symm))]; exact h3, h4, World.ownsRow.kept (row := some g) h5 hg (.inr hne)⟩
theorem BelowT.blk {b : Nat} {w w' : World} {g : Nat} {t : TypeId} {cs : Array Value} (h : BelowT b w w') (hk : Blk w g t cs) (hg : g ≠ b) (ht : t ≠ 5) : Blk w' g t cs := (h.block g cs t (0, 0) hk hg ht).trans hk
theorem rstH_size (s : ByteArray) (hs : List Hol) (t : ByteArray) (h : t ∈ rstH s hs) : t.size ≤ s.size := by
  have key : ∀ (hs : List Hol) (a : Int), ∀ t ∈ restH s a hs, t.size ≤ s.size := by
    intro hs
    induction hs with
    | nil =>
      intro a t ht
      obtain rfl := List.mem_singleton.1 ht
      rw [ByteArray.size_extract]; omega
    | cons g r ih =>
      intro a t ht
      rcases List.mem_cons.1 ht with rfl | ht
      · rw [ByteArray.size_extract]; omega
      · exact ih _ t ht
  unfold rstH at h
  split at h
  · exact key hs 0 t h
  · cases h

/-- returns a text, holes of its own, an error -/
def RFill (w : World) (e : Ending) (w' : World) : Prop := ∃ (t : ByteArray) (A : Option Addr) (n cap : Nat) (r : Int), e = .returned (.tuple #[.string t, .slice A n cap, .int .i64 r]) ∧ Hid (∃ L : List Hol, L.length = n ∧ OwnH w' w.heap.size (.slice A n cap) L) ∧ Below w.heap.size w w'
theorem info_hol : (Try.prog.info? 31).map (fun i => (i.zero, i.size, i.bytes)) = some (some (.agg #[.int .i64 0, .int .i64 0, .int .i64 0, .string ⟨#[]⟩]), 4, 40) := by kernel_rfl

/-- one hole more, where there is room -/
theorem wpl_pushH {ops : Array Oper} {rest : List Oper} {o : Oper} {a : Act} {Q : Exit → Act → World → Prop} (hgd : o.guard = none) (s x : Operand)
    (ho : o.op = .call { callee := .builtin .append, args := #[s, x], argTypes := #[22, 22] })
    (base g n cap : Nat) (l : List Hol) (p : Hol) (W : World) (hl : l.length = n) (hown : OwnH W base (.slice (some ⟨g, 0, none⟩) n cap) l) (hs : a.eval s = .slice (some ⟨g, 0, none⟩) n cap) (q : Nat) (hx : a.eval x = .slice (some ⟨q, 0, none⟩) 1 1) (hq : q = W.heap.size)
    (hroom : n + 1 ≤ cap)
    (h : ∀ w', OwnH w' base (.slice (some ⟨g, 0, none⟩) (n + 1) cap) (l ++ [p]) → (W.alloc (.cells #[.int .i64 p.f, .int .i64 p.t, .int .i64 p.e, .string p.x] 31)).grownBy w' (some g) → wpList Try.prog ops Q rest (a.put o.dst (.slice (some ⟨g, 0, none⟩) (n + 1) cap)) w') : wpList Try.prog ops Q (o :: rest) a (W.alloc (.cells #[.int .i64 p.f, .int .i64 p.t, .int .i64 p.e, .string p.x] 31)) := by
  subst hq hl
  obtain ⟨i0, hi, hz0, hz1, hz2⟩ := info_parts info_hol
  have hown2 : (W.alloc (.cells #[.int .i64 p.f, .int .i64 p.t, .int .i64 p.e, .string p.x] 31)).ownsRow base 31 4 (.slice (some ⟨g, 0, none⟩) l.length cap) l.length (holCells l) := World.ownsRow.alloc hown _
  refine wpList_append_own_spare (P := Try.prog) _ hgd s x 22 ho base 31 i0 4 Try.underlying22 hi hz1 g l.length cap (holCells l) hs hown2 ⟨W.heap.size, 0, none⟩ 1 1 p.cells hx rfl
    (World.news_of_block (cs := #[.int .i64 p.f, .int .i64 p.t, .int .i64 p.e, .string p.x]) (t := 31) (fr := (0, 0)) (heap_alloc_new W _)) (by simp [Hol.cells, Value.oneCell']) hroom ?_
  intro w' h1 h2
  refine h w' ?_ h2
  unfold OwnH
  rw [List.length_append, show holCells (l ++ [p]) = holCells l ++ p.cells by simp [holCells]]
  exact h1

set_option maxRecDepth 100000 in
set_option maxHeartbeats 3200000 in
theorem fill_any (s : ByteArray) (A : Option Addr) (cap : Nat) (hs : List Hol) (A2 : Option Addr) (cap2 : Nat) (by_ : List ByteArray) (w : World) (hsz : s.size ≤ 1048576) (hn : hs.length ≤ 1048576) (hfit : ∀ h ∈ hs, h.fits) (B : Nat) (hR : HolsAt w B A hs) (hR2 : TxtsAt w B A2 by_) (hB : B ≤ w.heap.size) (hbn : by_.length ≤ 1048576) (hby : ∀ t ∈ by_, t.size ≤ 1048576) :
    Calls Try.prog 10 #[.string s, .slice A hs.length cap, .slice A2 by_.length cap2] w (RFill w) := by
  have HR := hid hR
  have HR2 := hid hR2
  have HBY := hid hby
  obtain ⟨m, hm⟩ : ∃ m, mayH s.size 0 hs = m := ⟨_, rfl⟩
  have Hm := hid hm
  have hrst := rest_any s A cap hs w hsz hn hfit B hR hB
  have Hrst := hid hrst
  clear hR hR2 hby hfit hm hrst
  obtain ⟨n, hnn⟩ : ∃ n, hs.length = n := ⟨_, rfl⟩
  have Hn := hid hnn
  rw [hnn] at hn Hrst ⊢
  clear hnn
  obtain ⟨n2, hnn2⟩ : ∃ n2, by_.length = n2 := ⟨_, rfl⟩
  have Hn2 := hid hnn2
  rw [hnn2] at hbn ⊢
  clear hnn2
  cases m with
  | false =>
    have Hc : Hid (4 = chkR s.size hs) := hid (by unfold chkR; rw [Hm.out]; rfl)
    have Hr2 : Hid (rstH s hs = []) := hid (by unfold rstH; rw [Hm.out]; rfl)
    go_enter Try.func10, Try.ntmps10
    go_wp2_with fail
    refine (Hrst.out.mono fun e w' h => RTxt.known (m := 0) (n' := 4) h (by rw [Hr2.out]; rfl) Hc.out.symm).mono ?_
    rintro e w1 ⟨A1, c1, rfl, hO1, hb1⟩
    go_wp2
    go_ret3
    exact ⟨⟨#[]⟩, none, 0, 0, 4, rfl, hid ⟨[], rfl, OwnH.nil _ _⟩, hb1⟩
  | true =>
    have Hc : Hid (0 = chkR s.size hs) := hid (by unfold chkR; rw [Hm.out]; rfl)
    have Hl2 : Hid ((rstH s hs).length = n + 1) := hid (by unfold rstH; rw [Hm.out]; show (restH s 0 hs).length = _; rw [restH_len, Hn.out])
    by_cases hnb : n2 = n
    · subst hnb
      obtain ⟨i0, hi, hz0, hz1, hz2⟩ := info_parts info_hol
      go_enter Try.func10, Try.ntmps10
      go_wp2_with fail
      refine (Hrst.out.mono fun e w' h => RTxt.known (m := n2 + 1) (n' := 0) h Hl2.out Hc.out.symm).mono ?_
      rintro e w1 ⟨A1, c1, rfl, hO1, hb1⟩
      obtain ⟨b, hbz⟩ : ∃ b, w1.heap.size = b := ⟨_, rfl⟩
      have Hbz := hid hbz
      go_wp2_with (at_make; refine wpList_make_own _ rfl _ _ 22 rfl (b + 1) 31 i0 _ 4 Try.underlying22 hi hz0 hz1 _ _ _ n2 rfl rfl rfl (by rw [hz2]; omega) (by unfold maxLen; omega) (by simp; omega) ?_; intro w2 hown2 hgrow2)
      have hw1a : (w1.alloc (.cells #[.pointer none, .slice none 0 0] 41)).heap.size = b + 1 := by simp [hbz]
      rw [hw1a] at hown2
      have hlt2 : b + 1 < w2.heap.size := (World.ownsRow.lt hown2 (b + 1) (by simp [Value.ownBlock])).2
      have hBl2 : Bld b (b + 2) [] w2 := Bld.fresh (by
        rw [hgrow2.block b (by rw [hw1a]; omega) (by simp)]
        have := heap_alloc_new w1 (.cells #[.pointer none, .slice none 0 0] 41)
        rw [hbz] at this
        exact this) (by omega) (by omega)
      have hbw2 : Below b w1 w2 := by
        have := ((Below.refl b w1).alloc (by omega) (.cells #[.pointer none, .slice none 0 0] 41)).grown hgrow2 (by rw [hw1a]; omega) (by simp)
        exact this
      have hb1b : w.heap.size ≤ b := by have := hb1.size; omega
      have HBl2 := hid hBl2
      have HO1 := hid hO1.out
      have Hown2 := hid hown2
      clear hBl2 hown2 hgrow2 hw1a hi hz0 hz1 hz2 hO1
      go_loopw [12, 34] (fun v i wr => ∃ (k lb : Nat) (L : List Hol) (l : List UInt8), k ≤ n2 ∧ i = .int .i64 k ∧ v = .slice (some ⟨b + 1, 0, none⟩) k n2 ∧ Hid (L.length = k) ∧ Hid (OwnH wr (b + 1) (.slice (some ⟨b + 1, 0, none⟩) k n2) L) ∧ Hid (l.length = lb) ∧ lb ≤ 65536 ∧ Hid (Bld b (b + 2) l wr) ∧ b + 1 < wr.heap.size ∧ Below b w1 wr) (fun _ i _ => n2 - (intOf i).toNat)
      case atStart => exact ⟨0, 0, [], [], Nat.zero_le _, rfl, rfl, hid rfl, hid Hown2.out, hid rfl, by omega, hid HBl2.out, hlt2, hbw2⟩
      case round =>
        obtain ⟨k, lb, L, l, hk, rfl, rfl, hL, hO, hlb, hlb6, hB2, hsz2, hbw⟩ := hrel
        have hbbw : Below w.heap.size w wr := hb1.trans (hbw.mono hb1b)
        have hO1r : OwnS wr w.heap.size (.slice A1 (n2 + 1) c1) (rstH s hs) := OwnS.keep HO1.out (by rw [Hbz.out]; exact hbw)
        by_cases hlt : k < n2
        · have hkl : k < hs.length := by rw [Hn.out]; exact hlt
          have hkb : k < by_.length := by rw [Hn2.out]; exact hlt
          have hkr : k < (rstH s hs).length := by rw [Hl2.out]; omega
          obtain ⟨ad, rfl, hbl, hc0, hc1, hc2, hc3⟩ := HolsAt.at_ (w := wr) (B := B) (A := A) (HR.out.below (hbbw.mono hB)) hkl
          obtain ⟨ad2, rfl, hbl2, hy⟩ := TxtsAt.at_ (w := wr) (B := B) (A := A2) (HR2.out.below (hbbw.mono hB)) hkb
          obtain ⟨g1, rfl, hr⟩ := OwnS.cell hO1r hkr
          have hrz := rstH_size s hs _ (List.getElem_mem hkr)
          have hyz := HBY.out _ (List.getElem_mem hkb)
          obtain ⟨rt, hrt⟩ : ∃ rt, (rstH s hs)[k] = rt := ⟨_, rfl⟩
          obtain ⟨yt, hyt⟩ : ∃ yt, by_[k] = yt := ⟨_, rfl⟩
          obtain ⟨g, hg⟩ : ∃ g : Hol, hs[k] = g := ⟨_, rfl⟩
          rw [hg] at hc0 hc1 hc2 hc3
          rw [hrt] at hr hrz
          rw [hyt] at hy hyz
          have hg1 : g1 < wr.heap.size := World.block_lt_of_cell? wr _ hr
          clear hrt hyt hg hkl hkb hkr hO1r
          obtain ⟨f, to, e, y⟩ := g
          simp only at hc0 hc1 hc2 hc3
          obtain ⟨hb, hhb⟩ : ∃ hb, wr.heap.size = hb := ⟨_, rfl⟩
          have hgb : g1 < b := by
            have := (World.ownsRow.lt HO1.out g1 (by simp [Value.ownBlock])).2
            rw [Hbz.out] at this; exact this
          have hr1 : (wr.alloc (.cells #[.int .i64 f, .int .i64 to, .int .i64 e, .string y] 31)).cell? ⟨g1, k, none⟩ = some (.string rt) := (World.cell?_alloc_lt _ _ _ hg1).trans hr
          have HK1 := hid (Blk.new wr 31 #[.int .i64 f, .int .i64 to, .int .i64 e, .string y])
          rw [hhb] at HK1
          have HB3 := hid (hB2.out.keep ((Below.refl _ _).alloc (Nat.le_refl _) (.cells #[.int .i64 f, .int .i64 to, .int .i64 e, .string y] 31)))
          have HE1 : Hid ((wr.alloc (.cells #[.int .i64 f, .int .i64 to, .int .i64 e, .string y] 31)).heap[b + 1]? = wr.heap[b + 1]?) := hid (Below.heap_alloc _ _ _ (by omega))
          go_wp2_with fail
          refine (writeStringT_any b (b + 2) l rt _ HB3.out (by rw [hlb.out]; omega)).mono ?_
          rintro e' w3 ⟨rfl, hB3, hX3, hT3⟩
          have HK3 := hid (hT3.blk HK1.out (by omega) (by decide))
          have HB3' := hid hB3
          have HE3 := hid (hX3.block (b + 1) (by omega) (by omega))
          obtain ⟨q1, hq1⟩ : ∃ q1, (l ++ rt.data.toList).length = q1 := ⟨_, rfl⟩
          have hq1b : q1 ≤ 2000000 := by rw [← hq1, List.length_append, len_data, hlb.out]; omega
          have hlen1 := blen_any b (b + 2) _ w3 hB3
          rw [hq1] at hlen1
          have Hlen1 := hid hlen1
          have Hq1 := hid hq1
          have d0 : w3.cell? ⟨hb, 0, none⟩ = some (.int .i64 f) := (HK3.out.cell 0).trans rfl
          have g0 : w3.frozen? ⟨hb, 0, none⟩ = false := HK3.out.frozen 0
          have HK4 : Hid (Blk (w3.setCell ⟨hb, 0, none⟩ (.int .i64 q1)) hb 31 #[.int .i64 q1, .int .i64 to, .int .i64 e, .string y]) := hid (HK3.out.set_ 0 _)
          have HB4 := hid (HB3'.out.setT (i := 0) HK3.out (by decide) (by omega) (.int .i64 q1))
          have hadb : (ad2.add k).block < b := by rw [block_of_add]; omega
          have hy3 : w3.cell? (ad2.add k) = some (.string yt) := (World.cell?_of_block (hX3.block _ (by omega) (by omega))).trans ((World.cell?_alloc_lt _ _ _ (by omega)).trans hy)
          have hy4 : (w3.setCell ⟨hb, 0, none⟩ (.int .i64 q1)).cell? (ad2.add k) = some (.string yt) := (World.cell?_setCell_other _ _ _ _ (fun h => by rw [← h] at hadb; simp only at hadb; omega)).trans hy3
          have HE4 : Hid ((w3.setCell ⟨hb, 0, none⟩ (.int .i64 q1)).heap[b + 1]? = w3.heap[b + 1]?) := hid (Below.heap_setCell _ _ _ _ (by show b + 1 ≠ hb; omega))
          have hw3s : hb < w3.heap.size := HK3.out.lt
          have HX3 := hid hX3
          clear hB3 hX3 hT3 hr hr1 hc0 hc1 hc2 hc3 hq1 hlen1 hy
          go_wp2_with fail
          refine Hlen1.out.mono ?_
          rintro e' w4 ⟨rfl, hw⟩
          obtain rfl := hw.symm
          go_wp2_with fail
          refine (writeStringT_any b (b + 2) _ yt _ HB4.out (by rw [Hq1.out]; omega)).mono ?_
          rintro e' w5 ⟨rfl, hB5, hX5, hT5⟩
          have HK5 := hid (hT5.blk HK4.out (by omega) (by decide))
          have HB5 := hid hB5
          have HE5 := hid (hX5.block (b + 1) (by omega) (by omega))
          obtain ⟨q2, hq2⟩ : ∃ q2, (l ++ rt.data.toList ++ yt.data.toList).length = q2 := ⟨_, rfl⟩
          have hq2b : q2 ≤ 4000000 := by rw [← hq2, List.length_append, len_data, Hq1.out]; omega
          have hlen2 := blen_any b (b + 2) _ w5 hB5
          rw [hq2] at hlen2
          have Hlen2 := hid hlen2
          have Hq2 := hid hq2
          clear d0 g0
          have d1 : w5.cell? ⟨hb, 1, none⟩ = some (.int .i64 to) := (HK5.out.cell 1).trans rfl
          have g1' : w5.frozen? ⟨hb, 1, none⟩ = false := HK5.out.frozen 1
          have HK6 : Hid (Blk (w5.setCell ⟨hb, 1, none⟩ (.int .i64 q2)) hb 31 #[.int .i64 q1, .int .i64 q2, .int .i64 e, .string y]) := hid (HK5.out.set_ 1 _)
          have HB6 := hid (HB5.out.setT (i := 1) HK5.out (by decide) (by omega) (.int .i64 q2))
          have k0 : (w5.setCell ⟨hb, 1, none⟩ (.int .i64 q2)).cell? ⟨hb, 0, none⟩ = some (.int .i64 q1) := (HK6.out.cell 0).trans rfl
          have k1 : (w5.setCell ⟨hb, 1, none⟩ (.int .i64 q2)).cell? ⟨hb, 1, none⟩ = some (.int .i64 q2) := (HK6.out.cell 1).trans rfl
          have k2 : (w5.setCell ⟨hb, 1, none⟩ (.int .i64 q2)).cell? ⟨hb, 2, none⟩ = some (.int .i64 e) := (HK6.out.cell 2).trans rfl
          have k3 : (w5.setCell ⟨hb, 1, none⟩ (.int .i64 q2)).cell? ⟨hb, 3, none⟩ = some (.string y) := (HK6.out.cell 3).trans rfl
          have HE6 : Hid ((w5.setCell ⟨hb, 1, none⟩ (.int .i64 q2)).heap[b + 1]? = wr.heap[b + 1]?) := hid ((Below.heap_setCell _ _ _ _ (by show b + 1 ≠ hb; omega)).trans (HE5.out.trans (HE4.out.trans (HE3.out.trans HE1.out))))
          have hO6 : OwnH (w5.setCell ⟨hb, 1, none⟩ (.int .i64 q2)) (b + 1) (.slice (some ⟨b + 1, 0, none⟩) k n2) L := hO.out.same HE6.out
          have HX5 := hid hX5
          have hw5s : hb < w5.heap.size := HK5.out.lt
          clear hB5 hX5 hT5 hq2 hlen2 hy3 hy4
          have hbel6 : Hid (Below b w1 (w5.setCell ⟨hb, 1, none⟩ (.int .i64 q2))) := hid ((((hbw.alloc (by omega) _).trans (HX3.out.below (by omega))).setCell (by show b ≤ hb; omega) _).trans (HX5.out.below (by omega)) |>.setCell (by show b ≤ hb; omega) _)
          go_wp2_with fail
          refine Hlen2.out.mono ?_
          rintro e' w6 ⟨rfl, hw⟩
          obtain rfl := hw.symm
          go_wp2_with (at_builtin; refine wpl_pushH rfl _ _ rfl (b + 1) (b + 1) k n2 L ⟨q1, q2, e, y⟩ _ hL.out hO6 rfl _ rfl (by simp [World.setCell]) (by omega) ?_; intro w7 hO7 hgr7)
          have HB7 := hid ((HB6.out.keep ((Below.refl _ _).alloc (Nat.le_refl _) (.cells #[.int .i64 q1, .int .i64 q2, .int .i64 e, .string y] 31))).grown hgr7 (by omega) (by omega))
          have hbw7 : Below b w1 w7 := (hbel6.out.alloc (by simp [World.setCell]; omega) _).grown hgr7 (by simp [World.setCell]; omega) (fun g hg => by injection hg with hg; omega)
          have hsz7 : b + 1 < w7.heap.size := by have := hgr7.size; simp [World.setCell] at this; omega
          have hlen3 := blen_any b (b + 2) _ w7 HB7.out
          rw [Hq2.out] at hlen3
          have Hlen3 := hid hlen3
          have HO7 := hid hO7
          clear hlen3 hO7 hO6 hgr7 d1 g1' k0 k1 k2 k3
          refine Hlen3.out.mono ?_
          rintro e' w8 ⟨rfl, hw⟩
          obtain rfl := hw.symm
          by_cases hbig : 65536 < q2
          · have hbig2 : (65536 : Int) < q2 := by omega
            go_wp2
            go_ret3
            exact ⟨⟨#[]⟩, none, 0, 0, 5, rfl, hid ⟨[], rfl, OwnH.nil _ _⟩, hb1.trans (hbw7.mono hb1b)⟩
          · have hbig2 : ¬ (65536 : Int) < q2 := by omega
            go_wp2
            go_roundw
            case rel => exact ⟨k + 1, q2, L ++ [⟨q1, q2, e, y⟩], _, by omega, by go_num, rfl, hid (by rw [List.length_append, hL.out]; rfl), hid HO7.out, hid Hq2.out, by omega, hid HB7.out, hsz7, hbw7⟩
            case measure => simp [intOf]; omega
        · obtain rfl : k = n2 := by omega
          have hkr : k < (rstH s hs).length := by rw [Hl2.out]; omega
          obtain ⟨g1, rfl, hr⟩ := OwnS.cell hO1r hkr
          have hrz := rstH_size s hs _ (List.getElem_mem hkr)
          obtain ⟨rt, hrt⟩ : ∃ rt, (rstH s hs)[k] = rt := ⟨_, rfl⟩
          rw [hrt] at hr hrz
          clear hrt hkr hO1r
          go_wp2_with fail
          refine (writeStringT_any b (b + 2) l rt _ hB2.out (by rw [hlb.out]; omega)).mono ?_
          rintro e' w3 ⟨rfl, hB3, hX3, hT3⟩
          have hO3 := hid (hO.out.same (hX3.block (b + 1) (by omega) (by omega)))
          have hbw3 : Below b w1 w3 := hbw.trans (hX3.below (by omega))
          obtain ⟨q1, hq1⟩ : ∃ q1, (l ++ rt.data.toList).length = q1 := ⟨_, rfl⟩
          have hlen1 := blen_any b (b + 2) _ w3 hB3
          rw [hq1] at hlen1
          have Hlen1 := hid hlen1
          have Hstr := hid (bstrK_any b (b + 2) _ w3 hB3)
          have hq1b : q1 ≤ 2000000 := by rw [← hq1, List.length_append, len_data, hlb.out]; omega
          clear hlen1 hq1 hB3 hX3 hT3
          go_wp2_with fail
          refine Hlen1.out.mono ?_
          rintro e' w4 ⟨rfl, hw⟩
          obtain rfl := hw.symm
          by_cases hbig : 65536 < q1
          · have hbig2 : (65536 : Int) < q1 := by omega
            go_wp2
            go_ret3
            exact ⟨⟨#[]⟩, none, 0, 0, 5, rfl, hid ⟨[], rfl, OwnH.nil _ _⟩, hb1.trans (hbw3.mono hb1b)⟩
          · have hbig2 : ¬ (65536 : Int) < q1 := by omega
            go_wp2_with fail
            refine Hstr.out.mono ?_
            rintro e' w5 ⟨rfl, hb5, _⟩
            go_wp2
            go_ret3
            refine ⟨_, some ⟨b + 1, 0, none⟩, k, k, 0, rfl, hid ⟨L, hL.out, ?_⟩, (hb1.trans (hbw3.mono hb1b)).trans (hb5.mono (by omega))⟩
            exact OwnH.less (hO3.out.same (hb5.block (b + 1) (by omega))) (by omega)
    · have hne : ¬ (n2 : Int) = n := by omega
      have hne2 : ((n2 : Int) == (n : Int)) = false := beq_eq_false_iff_ne.2 hne
      go_enter Try.func10, Try.ntmps10
      go_wp2_with fail
      refine (Hrst.out.mono fun e w' h => RTxt.known (m := n + 1) (n' := 0) h Hl2.out Hc.out.symm).mono ?_
      rintro e w1 ⟨A1, c1, rfl, hO1, hb1⟩
      go_wp2
      go_ret3
      exact ⟨⟨#[]⟩, none, 0, 0, 3, rfl, hid ⟨[], rfl, OwnH.nil _ _⟩, hb1⟩
end Go.Proofs.Ytlmnagakgchpdaa
