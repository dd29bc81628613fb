/- slices.Equal of attributes; tokens.Same; slices.EqualFunc of tokens; shape.Alike. -/
import Derived.Test.YtihgmgpcdodknaaAlv
set_option linter.unusedVariables false
namespace Go.Proofs.Ytihgmgpcdodknaa
open Go.RowKit

set_option maxRecDepth 100000 in
set_option maxHeartbeats 3200000 in
theorem eqA_any (ta ua : List Att) (va vb : Value) (w : World) (ha : AtR w w.heap.size va ta) (hb : AtR w w.heap.size vb ua) (hl : ta.length ≤ 9223372036854775807) :
    Calls Try.prog 54 #[va, vb] w fun e w' => e = .returned (.bool (ta == ua)) ∧ Below w.heap.size w w' := by
  obtain ⟨A, ca, rfl, hra⟩ := ha
  obtain ⟨A', cb, rfl, hrb⟩ := hb
  obtain ⟨res, hres⟩ : ∃ res, (ta == ua) = res := ⟨_, rfl⟩
  rw [hres]
  have Hres := hid hres.symm
  clear hres
  by_cases hlen : ta.length = ua.length
  · obtain ⟨m, hm⟩ : ∃ m, ua.length = m := ⟨_, rfl⟩
    have hta : ta.length = m := hlen.trans hm
    rw [hm] at hrb ⊢
    rw [hta] at hra hl ⊢
    have Hta := hid hta
    have Hua := hid hm
    have Hra := hid hra
    have Hrb := hid hrb
    clear hlen hm hta hra hrb
    go_enter Try.func54, Try.ntmps54
    go_wp2
    go_loopg [5, 13] m (fun g v5 v13 wr => ∃ i : Nat, v13 = .int .i64 (i : Int) ∧ i ≤ m ∧ g = m - i ∧ Hid (ta.take i = ua.take i) ∧ Hid (Below w.heap.size w wr))
    case atStart => exact ⟨0, rfl, Nat.zero_le _, rfl, hid (by simp), hid (Below.refl _ _)⟩
    case round =>
      obtain ⟨i, rfl, hi, rfl, hpre, hbr⟩ := hrel
      have hi0 : (0 : Int) ≤ (i : Int) := by omega
      by_cases hlt : i < m
      · have hlt1 : i < ta.length := by rw [Hta.out]; exact hlt
        have hlt2 : i < ua.length := by rw [Hua.out]; exact hlt
        have hil : (i : Int) < (m : Int) := by omega
        have hild : decide ((i : Int) < (m : Int)) = true := decide_eq_true hil
        obtain ⟨ad, rfl, hadb, q1, q2⟩ := at_cells (by rw [Hta.out]; exact Hra.out.below hbr.out) hlt1
        obtain ⟨ae, rfl, haeb, q3, q4⟩ := at_cells (by rw [Hua.out]; exact Hrb.out.below hbr.out) hlt2
        have e1 := bs_eq ta[i].1 ua[i].1
        have e2 := bs_eq ta[i].2 ua[i].2
        obtain ⟨s1, hs1⟩ : ∃ z, bs ta[i].1 = z := ⟨_, rfl⟩
        obtain ⟨s2, hs2⟩ : ∃ z, bs ta[i].2 = z := ⟨_, rfl⟩
        obtain ⟨s3, hs3⟩ : ∃ z, bs ua[i].1 = z := ⟨_, rfl⟩
        obtain ⟨s4, hs4⟩ : ∃ z, bs ua[i].2 = z := ⟨_, rfl⟩
        rw [hs1, hs3] at e1
        rw [hs2, hs4] at e2
        rw [hs1] at q1
        rw [hs2] at q2
        rw [hs3] at q3
        rw [hs4] at q4
        clear hs1 hs2 hs3 hs4
        by_cases h1 : ta[i].1 = ua[i].1
        · by_cases h2 : ta[i].2 = ua[i].2
          · have f1 : (s1.toList == s3.toList) = true := by rw [e1, h1]; simp
            have f2 : (s2.toList == s4.toList) = true := by rw [e2, h2]; simp
            have Hab : Hid (ta[i] = ua[i]) := hid (Prod.ext h1 h2)
            clear e1 e2 h1 h2
            go_wp2_with (go_quiet (fail))
            go_roundg (m - (i + 1))
            case measure => omega
            case rel => exact ⟨i + 1, by go_num, by omega, rfl, hid (by rw [List.take_succ_eq_append_getElem hlt1, List.take_succ_eq_append_getElem hlt2, hpre.out, Hab.out]), hid (hbr.out.trans (below_dN _ _ _))⟩
          · have f1 : (s1.toList == s3.toList) = true := by rw [e1, h1]; simp
            have f2 : (s2.toList == s4.toList) = false := by rw [e2]; simpa using h2
            have Hn2 := hid h2
            clear e1 e2 h1 h2
            go_wp2_with (go_quiet (fail))
            go_ret
            refine ⟨?_, hbr.out.trans (below_dN _ _ _)⟩
            rw [show res = false from by
              have : ta ≠ ua := fun e => by subst e; exact Hn2.out rfl
              rw [Hres.out]; simp [this]] <;> rfl
        · have f1 : (s1.toList == s3.toList) = false := by rw [e1]; simpa using h1
          have Hn1 := hid h1
          clear e1 e2 h1
          go_wp2_with (go_quiet (fail))
          go_ret
          refine ⟨?_, hbr.out.trans (below_dN _ _ _)⟩
          rw [show res = false from by
            have : ta ≠ ua := fun e => by subst e; exact Hn1.out rfl
            rw [Hres.out]; simp [this]] <;> rfl
      · obtain rfl : i = m := by omega
        have hpq : ta = ua := by
          have := hpre.out
          rwa [List.take_of_length_le (by rw [Hta.out]; exact Nat.le_refl _), List.take_of_length_le (by rw [Hua.out]; exact Nat.le_refl _)] at this
        have Hpq := hid hpq
        clear hpq
        go_wp2
        go_ret
        refine ⟨?_, hbr.out⟩
        rw [show res = true from by
          rw [Hres.out]
          simp [Hpq.out]] <;> rfl
  · have hl1 : ((ta.length : Int) == (ua.length : Int)) = false := beq_eq_false_iff_ne.2 (by omega)
    have hl2 : (ta.length == ua.length) = false := beq_eq_false_iff_ne.2 hlen
    have hl3 : ((ta.length : Int) != (ua.length : Int)) = true := by rw [bne, hl1]; rfl
    have hl4 : ta ≠ ua := fun e => hlen (by rw [e])
    go_enter Try.func54, Try.ntmps54
    go_wp2
    go_ret
    refine ⟨?_, Below.refl _ _⟩
    rw [show res = false from by rw [Hres.out]; simp [hl4]] <;> rfl

set_option maxRecDepth 100000 in
set_option maxHeartbeats 3200000 in
theorem tokSame_any (t u : Tk) (va vb : Value) (w : World) (ha : AtR w w.heap.size va t.ats) (hb : AtR w w.heap.size vb u.ats) (hl : t.ats.length ≤ 9223372036854775807) :
    Calls Try.prog 35 #[.agg #[.int .i64 t.k, .string (bs t.n), .string (bs t.x), va, .bool t.c], .agg #[.int .i64 u.k, .string (bs u.n), .string (bs u.x), vb, .bool u.c]] w fun e w' => e = .returned (.bool (tkEq t u)) ∧ Below w.heap.size w w' := by
  obtain ⟨tk, tn, tx, ta, tc⟩ := t
  obtain ⟨uk, un, ux, ua, uc⟩ := u
  simp only at ha hb hl ⊢
  obtain ⟨res, hres⟩ : ∃ res, tkEq ⟨tk, tn, tx, ta, tc⟩ ⟨uk, un, ux, ua, uc⟩ = res := ⟨_, rfl⟩
  rw [hres]
  have Hres : Hid (res = (tk == uk && (tn == un && (tx == ux && (tc == uc && ta == ua))))) := hid hres.symm
  clear hres
  have hbW : Below w.heap.size w ((w.alloc (.cells #[.int .i64 tk, .string (bs tn), .string (bs tx), va, .bool tc] 36)).alloc (.cells #[.int .i64 uk, .string (bs un), .string (bs ux), vb, .bool uc] 36)) := ((Below.refl _ _).alloc (Nat.le_refl _) _).alloc (by simp) _
  have HbW := hid hbW
  have Heq := hid (fun W (hb0 : Below w.heap.size w W) => eqA_any ta ua va vb W ((ha.below hb0).more hb0.size) ((hb.below hb0).more hb0.size) hl)
  obtain ⟨A, ca, rfl, -⟩ := ha
  obtain ⟨A', cb, rfl, -⟩ := hb
  have b1 := bs_eq tn un
  have b2 := bs_eq tx ux
  clear hbW
  by_cases hk : tk = uk
  · subst hk
    by_cases hn : tn = un
    · subst hn
      by_cases hx : tx = ux
      · subst hx
        by_cases hc : tc = uc
        · subst hc
          clear b1 b2
          have Hres2 : Hid (res = (ta == ua)) := hid (by rw [Hres.out]; simp)
          go_enter Try.func35, Try.ntmps35
          go_wp2_with fail
          refine (Heq.out _ HbW.out).mono ?_
          rintro e w2 ⟨rfl, hb2⟩
          have Hb2 := hid (HbW.out.trans (hb2.mono HbW.out.size))
          clear hb2
          go_wp2_with fail
          go_ret
          rw [Hres2.out]
          exact ⟨rfl, Hb2.out⟩
        · have hc1 : (tc == uc) = false := beq_eq_false_iff_ne.2 hc
          go_enter Try.func35, Try.ntmps35
          go_wp2_with fail
          go_ret
          refine ⟨?_, HbW.out⟩
          rw [show res = false from by rw [Hres.out]; simp [hc]] <;> rfl
      · have hx1 : (tx == ux) = false := beq_eq_false_iff_ne.2 hx
        rw [hx1] at b2
        go_enter Try.func35, Try.ntmps35
        go_wp2_with fail
        go_ret
        refine ⟨?_, HbW.out⟩
        rw [show res = false from by rw [Hres.out]; simp [hx]] <;> rfl
    · have hn1 : (tn == un) = false := beq_eq_false_iff_ne.2 hn
      rw [hn1] at b1
      go_enter Try.func35, Try.ntmps35
      go_wp2_with fail
      go_ret
      refine ⟨?_, HbW.out⟩
      rw [show res = false from by rw [Hres.out]; simp [hn]] <;> rfl
  · have hk1 : (tk == uk) = false := beq_eq_false_iff_ne.2 hk
    go_enter Try.func35, Try.ntmps35
    go_wp2_with fail
    go_ret
    refine ⟨?_, HbW.out⟩
    rw [show res = false from by rw [Hres.out]; simp [hk]] <;> rfl

set_option maxRecDepth 100000 in
set_option maxHeartbeats 3200000 in
theorem eqF_any (L M : List Tk) (V1 V2 : Value) (w : World) (h1 : TkA w w.heap.size V1 L) (h2 : TkA w w.heap.size V2 M) (hb : ∀ t ∈ L, t.ats.length ≤ 9223372036854775807) (hll : L.length ≤ 9223372036854775807) :
    Calls Try.prog 34 #[V1, V2, .func (.func 35) #[] #[]] w fun e w' => e = .returned (.bool (tksEq L M)) ∧ Below w.heap.size w w' := by
  obtain ⟨A, ca, cs, rfl, hr1, ht1⟩ := h1
  obtain ⟨A', cb, ds, rfl, hr2, ht2⟩ := h2
  have Hb := hid hb
  obtain ⟨res, hres⟩ : ∃ res, tksEq L M = res := ⟨_, rfl⟩
  rw [hres]
  have Hres := hid hres
  obtain ⟨m, hm⟩ : ∃ m, L.length = m := ⟨_, rfl⟩
  obtain ⟨n, hn⟩ : ∃ n, M.length = n := ⟨_, rfl⟩
  have Hm := hid hm
  have Hn := hid hn
  have Hr1 := hid hr1
  have Hr2 := hid hr2
  have Ht1 := hid ht1
  have Ht2 := hid ht2
  rw [hm, hn]
  rw [hm] at hll
  clear hb hres hm hn hr1 hr2 ht1 ht2
  by_cases hl : m = n
  · subst hl
    go_enter Try.func34, Try.ntmps34
    go_wp2
    go_loopg [7, 8, 9, 17] m (fun g v7 v8 v9 v17 wr => ∃ i : Nat, v17 = .int .i64 (i : Int) ∧ i ≤ m ∧ g = m - i ∧ Hid (tksEq L M = tksEq (L.drop i) (M.drop i)) ∧ Hid (Below w.heap.size w wr))
    case atStart => exact ⟨0, rfl, Nat.zero_le _, rfl, hid rfl, hid (Below.refl _ _)⟩
    case round =>
      obtain ⟨i, rfl, hi, rfl, heq, hbr⟩ := hrel
      have hi0 : (0 : Int) ≤ (i : Int) := by omega
      by_cases hlt : i < m
      · have hlt1 : i < L.length := by rw [Hm.out]; exact hlt
        have hlt2 : i < M.length := by rw [Hn.out]; exact hlt
        have hil : (i : Int) < (m : Int) := by omega
        have hild : decide ((i : Int) < (m : Int)) = true := decide_eq_true hil
        obtain ⟨ad, va, rfl, hadb, p0, p1, p2, p3, p4, p5⟩ := tk_read (Hr1.out.below hbr.out) (TkR.map (fun v l hv => hv.below hbr.out) L cs Ht1.out) hlt1
        obtain ⟨ae, vb, rfl, haeb, q0, q1, q2, q3, q4, q5⟩ := tk_read (Hr2.out.below hbr.out) (TkR.map (fun v l hv => hv.below hbr.out) M ds Ht2.out) hlt2
        have hsz := hbr.out.size
        have Hsm := hid (fun W (hb0 : Below wr.heap.size wr W) => tokSame_any L[i] M[i] va vb W (((p5.more hbr.out.size).below hb0).more hb0.size) (((q5.more hbr.out.size).below hb0).more hb0.size) (Hb.out _ (List.getElem_mem hlt1)))
        obtain ⟨bq, hbq⟩ : ∃ bq, tkEq L[i] M[i] = bq := ⟨_, rfl⟩
        rw [hbq] at Hsm
        have Hst : Hid (tksEq L M = (bq && tksEq (L.drop (i + 1)) (M.drop (i + 1)))) := hid (by rw [heq.out, drop_at L i hlt1, drop_at M i hlt2, tksEq, hbq])
        obtain ⟨A5, c5, rfl, -⟩ := p5
        obtain ⟨A6, c6, rfl, -⟩ := q5
        clear hbq
        generalize L[i].k = k1 at *
        generalize M[i].k = k2 at *
        generalize L[i].c = c1 at *
        generalize M[i].c = c2 at *
        generalize bs L[i].n = n1 at *
        generalize bs M[i].n = n2 at *
        generalize bs L[i].x = x1 at *
        generalize bs M[i].x = x2 at *
        have Q0 := (World.cell?_alloc_lt wr (.cells #[.int .i64 k1, .string n1, .string x1, .slice A5 L[i].ats.length c5, .bool c1] 36) (ae.add (i * 5)) (by rw [block_of_add]; omega)).trans q0
        have Q1 := (World.cell?_alloc_lt wr (.cells #[.int .i64 k1, .string n1, .string x1, .slice A5 L[i].ats.length c5, .bool c1] 36) ⟨(ae.add (i * 5)).block, (ae.add (i * 5)).off + 1, none⟩ (by show (ae.add (i * 5)).block < _; rw [block_of_add]; omega)).trans q1
        have Q2 := (World.cell?_alloc_lt wr (.cells #[.int .i64 k1, .string n1, .string x1, .slice A5 L[i].ats.length c5, .bool c1] 36) ⟨(ae.add (i * 5)).block, (ae.add (i * 5)).off + 2, none⟩ (by show (ae.add (i * 5)).block < _; rw [block_of_add]; omega)).trans q2
        have Q3 := (World.cell?_alloc_lt wr (.cells #[.int .i64 k1, .string n1, .string x1, .slice A5 L[i].ats.length c5, .bool c1] 36) ⟨(ae.add (i * 5)).block, (ae.add (i * 5)).off + 3, none⟩ (by show (ae.add (i * 5)).block < _; rw [block_of_add]; omega)).trans q3
        have Q4 := (World.cell?_alloc_lt wr (.cells #[.int .i64 k1, .string n1, .string x1, .slice A5 L[i].ats.length c5, .bool c1] 36) ⟨(ae.add (i * 5)).block, (ae.add (i * 5)).off + 4, none⟩ (by show (ae.add (i * 5)).block < _; rw [block_of_add]; omega)).trans q4
        cases bq with
        | true =>
          go_wp2_with fail
          refine (Hsm.out _ ((alloc_below wr _).trans ((alloc_below _ _).mono (by simp)))).mono ?_
          rintro e w2 ⟨rfl, hb2⟩
          have Hb2 := hid (hbr.out.trans ((((alloc_below wr _).trans ((alloc_below _ _).mono (by simp))).trans (hb2.mono (by simp; omega))).mono hsz))
          clear hb2
          go_wp2_with fail
          go_roundg (m - (i + 1))
          case measure => omega
          case rel =>
            have hi1 : i + 1 ≤ m := by omega
            exact ⟨i + 1, by go_num, hi1, rfl, hid (by rw [Hst.out, Bool.true_and]), Hb2⟩
        | false =>
          go_wp2_with fail
          refine (Hsm.out _ ((alloc_below wr _).trans ((alloc_below _ _).mono (by simp)))).mono ?_
          rintro e w2 ⟨rfl, hb2⟩
          have Hb2 := hid (hbr.out.trans ((((alloc_below wr _).trans ((alloc_below _ _).mono (by simp))).trans (hb2.mono (by simp; omega))).mono hsz))
          clear hb2
          go_wp2_with fail
          go_ret
          refine ⟨?_, Hb2.out⟩
          rw [show res = false from by rw [← Hres.out, Hst.out]; rfl] <;> rfl
      · obtain rfl : i = m := by omega
        go_wp2
        go_ret
        refine ⟨?_, hbr.out⟩
        rw [show res = true from by rw [← Hres.out, heq.out, List.drop_of_length_le (by rw [Hm.out]; exact Nat.le_refl _), List.drop_of_length_le (by rw [Hn.out]; exact Nat.le_refl _)]; rfl] <;> rfl
  · have hl1 : ((m : Int) == (n : Int)) = false := beq_eq_false_iff_ne.2 (by omega)
    have hl2 : (m == n) = false := beq_eq_false_iff_ne.2 hl
    have hl3 : ((m : Int) != (n : Int)) = true := by rw [bne, hl1]; rfl
    go_enter Try.func34, Try.ntmps34
    go_wp2
    go_ret
    refine ⟨?_, Below.refl _ _⟩
    rw [show res = false from by rw [← Hres.out]; exact tksEq_len (by rw [Hm.out, Hn.out]; exact hl)] <;> rfl

/-- what shape.Alike answers -/
def alikeB (r q : List Tk × Int) : Bool := r.2 == 0 && (q.2 == 0 && tksEq (shpS r) (shpS q))
set_option maxRecDepth 100000 in
set_option maxHeartbeats 3200000 in
theorem alike_any (s t : ByteArray) (w : World) (hs : s.size ≤ 1099511627776) (ht : t.size ≤ 1099511627776) (hm : MaxAt w) :
    Calls Try.prog 14 #[.string s, .string t] w fun e w' => e = .returned (.bool (alikeB (toks s.data.toList) (toks t.data.toList))) ∧ Below w.heap.size w w' := by
  have H1 := hid (fun W (hM : MaxAt W) => shapeS_any s W hs hM)
  have H2 := hid (fun W (hM : MaxAt W) => shapeS_any t W ht hM)
  have Hm := hid hm
  obtain ⟨r, hr⟩ : ∃ r, toks s.data.toList = r := ⟨_, rfl⟩
  obtain ⟨q, hq⟩ : ∃ q, toks t.data.toList = q := ⟨_, rfl⟩
  rw [hr] at H1 ⊢
  rw [hq] at H2 ⊢
  clear hr hq hm
  obtain ⟨x1, hx1⟩ : ∃ x, r.2 = x := ⟨_, rfl⟩
  obtain ⟨x2, hx2⟩ : ∃ x, q.2 = x := ⟨_, rfl⟩
  obtain ⟨res, hres⟩ : ∃ res, alikeB r q = res := ⟨_, rfl⟩
  rw [hres]
  have Hres : Hid (res = (x1 == 0 && (x2 == 0 && tksEq (shpS r) (shpS q)))) := hid (by rw [← hres, ← hx1, ← hx2]; rfl)
  rw [hx1] at H1
  rw [hx2] at H2
  clear hres hx1 hx2
  by_cases h1 : x1 = 0
  · by_cases h2 : x2 = 0
    · subst h1
      subst h2
      have Hres2 : Hid (res = tksEq (shpS r) (shpS q)) := hid (by rw [Hres.out]; simp)
      go_enter Try.func14, Try.ntmps14
      go_wp2_with fail
      refine (H1.out _ Hm.out).mono ?_
      rintro e w1 ⟨Va, rfl, hTa, hb1⟩
      have HTa := hid hTa
      have Hb1 := hid hb1
      clear hTa hb1
      go_wp2_with fail
      refine (H2.out _ (Hm.out.keep Hb1.out)).mono ?_
      rintro e w2 ⟨Vb, rfl, hTb, hb2⟩
      have HTb := hid hTb
      have Hb2 := hid hb2
      have Hb12 := hid (Hb1.out.trans (hb2.mono Hb1.out.size))
      clear hTb hb2
      have He := hid (eqF_any (shpS r) (shpS q) Va Vb w2 (((TkA.of_own HTa.out).below Hb2.out).more Hb2.out.size) (TkA.of_own HTb.out) HTa.out.ats_le HTa.out.len_le)
      go_wp2_with fail
      refine He.out.mono ?_
      rintro e w3 ⟨rfl, hb3⟩
      have Hb13 := hid (Hb12.out.trans (hb3.mono Hb12.out.size))
      clear hb3
      go_wp2_with fail
      go_ret
      rw [Hres2.out]
      exact ⟨rfl, Hb13.out⟩
    · subst h1
      have h2b : (x2 == 0) = false := beq_eq_false_iff_ne.2 h2
      go_enter Try.func14, Try.ntmps14
      go_wp2_with fail
      refine (H1.out _ Hm.out).mono ?_
      rintro e w1 ⟨Va, rfl, hTa, hb1⟩
      have Hb1 := hid hb1
      clear hTa hb1
      go_wp2_with fail
      refine (H2.out _ (Hm.out.keep Hb1.out)).mono ?_
      rintro e w2 ⟨Vb, rfl, hTb, hb2⟩
      have Hb12 := hid (Hb1.out.trans (hb2.mono Hb1.out.size))
      clear hTb hb2
      go_wp2_with fail
      go_ret
      refine ⟨?_, Hb12.out⟩
      rw [show res = false from by rw [Hres.out, h2b]; rfl] <;> rfl
  · have h1b : (x1 == 0) = false := beq_eq_false_iff_ne.2 h1
    go_enter Try.func14, Try.ntmps14
    go_wp2_with fail
    refine (H1.out _ Hm.out).mono ?_
    rintro e w1 ⟨Va, rfl, hTa, hb1⟩
    have Hb1 := hid hb1
    clear hTa hb1
    go_wp2_with fail
    refine (H2.out _ (Hm.out.keep Hb1.out)).mono ?_
    rintro e w2 ⟨Vb, rfl, hTb, hb2⟩
    have Hb12 := hid (Hb1.out.trans (hb2.mono Hb1.out.size))
    clear hTb hb2
    go_wp2_with fail
    go_ret
    refine ⟨?_, Hb12.out⟩
    rw [show res = false from by rw [Hres.out, h1b]; rfl] <;> rfl
end Go.Proofs.Ytihgmgpcdodknaa
