import Derived.Test.YtihgmgpcdodknaaDoorTok20
set_option linter.unusedVariables false
/- Tokens that can be read; muslinref12.Same, SameAll. -/
namespace Go.Proofs.YtihgmgpcdodknaaDoor
open Go.RowKit

/-- attributes that can be read below block B -/
def AtR (w : World) (B : Nat) (v : Value) (l : List Att) : Prop := ∃ A c, v = .slice A l.length c ∧ Reads w B 2 A l.length (attCells l)
def TkR (w : World) (B : Nat) : List Value → List Tk → Prop
  | cs, [] => cs = []
  | cs, t :: r => ∃ va rest, cs = [.int .i64 t.k, .string (bs t.n), .string (bs t.x), va, .bool t.c] ++ rest ∧ AtR w B va t.ats ∧ TkR w B rest r
def TkA (w : World) (B : Nat) (V : Value) (L : List Tk) : Prop := ∃ A c cs, V = .slice A L.length c ∧ Reads w B 5 A L.length cs ∧ TkR w B cs L
theorem AtR.below {w w' : World} {B : Nat} {v : Value} {l : List Att} (h : AtR w B v l) (hb : Below B w w') : AtR w' B v l := by
  obtain ⟨A, c, e, hr⟩ := h
  exact ⟨A, c, e, hr.below hb⟩
theorem AtR.more {w : World} {B B' : Nat} {v : Value} {l : List Att} (h : AtR w B v l) (hb : B ≤ B') : AtR w B' v l := by
  obtain ⟨A, c, e, hr⟩ := h
  exact ⟨A, c, e, hr.more hb⟩
theorem TkR.map {w w' : World} {B B' : Nat} (h : ∀ v l, AtR w B v l → AtR w' B' v l) : ∀ (L : List Tk) (cs : List Value), TkR w B cs L → TkR w' B' cs L
  | [], _, hc => hc
  | t :: r, cs, ⟨va, rest, e, ha, hr⟩ => ⟨va, rest, e, h va t.ats ha, TkR.map h r rest hr⟩
theorem TkA.below {w w' : World} {B : Nat} {V : Value} {L : List Tk} (h : TkA w B V L) (hb : Below B w w') : TkA w' B V L := by
  obtain ⟨A, c, cs, e, hr, ht⟩ := h
  exact ⟨A, c, cs, e, hr.below hb, TkR.map (fun v l hv => hv.below hb) L cs ht⟩
theorem TkA.more {w : World} {B B' : Nat} {V : Value} {L : List Tk} (h : TkA w B V L) (hb : B ≤ B') : TkA w B' V L := by
  obtain ⟨A, c, cs, e, hr, ht⟩ := h
  exact ⟨A, c, cs, e, hr.more hb, TkR.map (fun v l hv => hv.more hb) L cs ht⟩
theorem AtR.of_own {w : World} {base : Nat} {v : Value} {l : List Att} (h : OwnA w base v l) : AtR w w.heap.size v l := by
  have hs : ∃ A c, v = .slice A l.length c := by
    rcases h.2 with ⟨rfl, h0⟩ | ⟨g, cap, cur, e, _⟩
    · exact ⟨none, 0, by rw [h0]⟩
    · exact ⟨_, _, e⟩
  obtain ⟨A, c, rfl⟩ := hs
  exact ⟨A, c, rfl, Reads.of_own h⟩
theorem TkA.of_own {w : World} {base : Nat} {V : Value} {L : List Tk} (h : OwnT w base V L) : TkA w w.heap.size V L := by
  obtain ⟨A, c, rfl⟩ := h.len (n := L.length) rfl
  obtain ⟨cs, hc, ho⟩ := h
  refine ⟨A, c, cs, rfl, Reads.of_own ho, ?_⟩
  have key : ∀ (L : List Tk) (cs : List Value), TkCells w base cs L → TkR w w.heap.size cs L := by
    intro L
    induction L with
    | nil => intro cs h; exact h
    | cons t r ih =>
      intro cs h
      obtain ⟨va, rest, e, ha, hr⟩ := h
      exact ⟨va, rest, e, AtR.of_own ha, ih rest hr⟩
  exact key L cs hc
def tkEq (t u : Tk) : Bool := t.k == u.k && (t.n == u.n && (t.x == u.x && (t.c == u.c && t.ats == u.ats)))
theorem tkEq_iff (t u : Tk) : tkEq t u = true ↔ t = u := by
  unfold tkEq
  cases t; cases u
  simp
  intro _ _ _
  exact And.comm
theorem attCells_get : ∀ (l : List Att) (i : Nat) (hi : i < l.length), (attCells l)[i * 2]? = some (.string (bs l[i].1)) ∧ (attCells l)[i * 2 + 1]? = some (.string (bs l[i].2))
  | [], i, hi => absurd hi (by simp)
  | a :: r, 0, _ => ⟨rfl, rfl⟩
  | a :: r, i + 1, hi => by
    have ih := attCells_get r i (by simpa using hi)
    have e : attCells (a :: r) = [.string (bs a.1), .string (bs a.2)] ++ attCells r := rfl
    rw [e]
    constructor
    · rw [List.getElem?_append_right (by simp; omega), show (i + 1) * 2 - ([.string (bs a.1), .string (bs a.2)] : List Value).length = i * 2 from by simp; omega]
      exact ih.1
    · rw [List.getElem?_append_right (by simp; omega), show (i + 1) * 2 + 1 - ([.string (bs a.1), .string (bs a.2)] : List Value).length = i * 2 + 1 from by simp; omega]
      exact ih.2
theorem at_cells {w : World} {B : Nat} {A : Option Addr} {l : List Att} (h : Reads w B 2 A l.length (attCells l)) {i : Nat} (hi : i < l.length) :
    ∃ ad, A = some ad ∧ ad.block < B ∧ w.cell? (ad.add (i * 2)) = some (.string (bs l[i].1)) ∧ w.cell? ⟨(ad.add (i * 2)).block, (ad.add (i * 2)).off + 1, none⟩ = some (.string (bs l[i].2)) := by
  obtain ⟨ad, e, hb, hc⟩ := h.2 (by omega)
  have e1 : (⟨(ad.add (i * 2)).block, (ad.add (i * 2)).off + 1, none⟩ : Addr) = ad.add (i * 2 + 1) := by rw [← add_of_add, Addr.add_succ']
  have hg := attCells_get l i hi
  exact ⟨ad, e, hb, hc _ _ hg.1, by rw [e1]; exact hc _ _ hg.2⟩
theorem bs_eq (a b : List UInt8) : ((bs a).toList == (bs b).toList) = (a == b) := by rw [ByteArray.toList_eq, ByteArray.toList_eq]; rfl
set_option maxRecDepth 100000 in
set_option maxHeartbeats 1600000 in
theorem same_any (t u : Tk) (va vb : Value) (w : World) (ha : AtR w w.heap.size va t.ats) (hb : AtR w w.heap.size vb u.ats) (hl : t.ats.length ≤ 9223372036854775807) :
    Calls Tryd.prog 54 #[.agg #[.int .i64 t.k, .string (bs t.n), .string (bs t.x), va, .bool t.c], .agg #[.int .i64 u.k, .string (bs u.n), .string (bs u.x), vb, .bool u.c]] w fun e w' => e = .returned (.bool (tkEq t u)) ∧ Below w.heap.size w w' := by
  obtain ⟨tk, tn, tx, ta, tc⟩ := t
  obtain ⟨uk, un, ux, ua, uc⟩ := u
  simp only at ha hb hl ⊢
  obtain ⟨A, ca, rfl, hra⟩ := ha
  obtain ⟨A', cb, rfl, hrb⟩ := hb
  obtain ⟨res, hres⟩ : ∃ res, tkEq ⟨tk, tn, tx, ta, tc⟩ ⟨uk, un, ux, ua, uc⟩ = res := ⟨_, rfl⟩
  rw [hres]
  have Hres : Hid (res = (tk == uk && (tn == un && (tx == ux && (tc == uc && ta == ua))))) := hid hres.symm
  clear hres
  have hbW : Below w.heap.size w ((w.alloc (.cells #[.int .i64 tk, .string (bs tn), .string (bs tx), .slice A ta.length ca, .bool tc] 53)).alloc (.cells #[.int .i64 uk, .string (bs un), .string (bs ux), .slice A' ua.length cb, .bool uc] 53)) := ((Below.refl _ _).alloc (Nat.le_refl _) _).alloc (by simp) _
  have b1 := bs_eq tn un
  have b2 := bs_eq tx ux
  by_cases hk : tk = uk
  · subst hk
    by_cases hn : tn = un
    · subst hn
      by_cases hx : tx = ux
      · subst hx
        by_cases hc : tc = uc
        · subst hc
          by_cases hlen : ta.length = ua.length
          · obtain ⟨m, hm⟩ : ∃ m, ua.length = m := ⟨_, rfl⟩
            have hta : ta.length = m := hlen.trans hm
            rw [hm] at hrb hbW ⊢
            rw [hta] at hra hbW hl ⊢
            have Hta := hid hta
            have Hua := hid hm
            clear hlen hm hta
            have T1 := (Blk.new w 53 #[.int .i64 tk, .string (bs tn), .string (bs tx), .slice A m ca, .bool tc]).alloc (.cells #[.int .i64 tk, .string (bs tn), .string (bs tx), .slice A' m cb, .bool tc] 53)
            have T2 : Blk ((w.alloc (.cells #[.int .i64 tk, .string (bs tn), .string (bs tx), .slice A m ca, .bool tc] 53)).alloc (.cells #[.int .i64 tk, .string (bs tn), .string (bs tx), .slice A' m cb, .bool tc] 53)) (w.heap.size + 1) 53 #[.int .i64 tk, .string (bs tn), .string (bs tx), .slice A' m cb, .bool tc] := by
              have := Blk.new (w.alloc (.cells #[.int .i64 tk, .string (bs tn), .string (bs tx), .slice A m ca, .bool tc] 53)) 53 #[.int .i64 tk, .string (bs tn), .string (bs tx), .slice A' m cb, .bool tc]
              simpa using this
            have hra2 := hra.below hbW
            have hrb2 := hrb.below hbW
            have Q1 := hid T1
            have Q2 := hid T2
            clear T1 T2
            go_enter Tryd.func54, Tryd.ntmps54
            go_wp2
            have T1 := Q1.out
            have T2 := Q2.out
            clear Q1 Q2
            obtain ⟨W, hW⟩ : ∃ W, (w.alloc (.cells #[.int .i64 tk, .string (bs tn), .string (bs tx), .slice A m ca, .bool tc] 53)).alloc (.cells #[.int .i64 tk, .string (bs tn), .string (bs tx), .slice A' m cb, .bool tc] 53) = W := ⟨_, rfl⟩
            rw [hW] at T1 T2 hra2 hrb2 hbW ⊢
            obtain ⟨p1, hp1⟩ : ∃ p, w.heap.size = p := ⟨_, rfl⟩
            rw [hp1] at T1 T2 hra2 hrb2 hbW ⊢
            have Hra := hid hra2
            have Hrb := hid hrb2
            have HbW := hid hbW
            have Hle : Hid (p1 ≤ W.heap.size) := hid (Nat.le_of_lt T1.lt)
            clear hW hra hrb hra2 hrb2 hbW b1 b2
            go_loopg [5] m (fun g v5 wr => ∃ i : Nat, v5 = .int .i64 (i : Int) ∧ i ≤ m ∧ g = m - i ∧ Hid (ta.take i = ua.take i) ∧ Hid (Below W.heap.size W wr))
            case atStart => exact ⟨0, rfl, Nat.zero_le _, rfl, hid (by simp), hid (Below.refl _ _)⟩
            case round =>
              obtain ⟨i, rfl, hi, rfl, hpre, hbr⟩ := hrel
              have d1 : wr.cell? ⟨p1, 3, none⟩ = some (.slice A m ca) := cell_aft hbr.out T1.lt ((T1.cell 3).trans rfl)
              have d2 : wr.cell? ⟨p1 + 1, 3, none⟩ = some (.slice A' m cb) := cell_aft hbr.out T2.lt ((T2.cell 3).trans rfl)
              have hi0 : (0 : Int) ≤ (i : Int) := by omega
              by_cases hlt : i < m
              · have hlt1 : i < ta.length := by rw [Hta.out]; exact hlt
                have hlt2 : i < ua.length := by rw [Hua.out]; exact hlt
                have hil : (i : Int) < (m : Int) := by omega
                have hild : decide ((i : Int) < (m : Int)) = true := decide_eq_true hil
                obtain ⟨ad, rfl, hadb, q1, q2⟩ := at_cells (by rw [Hta.out]; exact Hra.out.below (hbr.out.mono Hle.out)) hlt1
                obtain ⟨ae, rfl, haeb, q3, q4⟩ := at_cells (by rw [Hua.out]; exact Hrb.out.below (hbr.out.mono Hle.out)) hlt2
                have e1 := bs_eq ta[i].1 ua[i].1
                have e2 := bs_eq ta[i].2 ua[i].2
                obtain ⟨s1, hs1⟩ : ∃ z, bs ta[i].1 = z := ⟨_, rfl⟩
                obtain ⟨s2, hs2⟩ : ∃ z, bs ta[i].2 = z := ⟨_, rfl⟩
                obtain ⟨s3, hs3⟩ : ∃ z, bs ua[i].1 = z := ⟨_, rfl⟩
                obtain ⟨s4, hs4⟩ : ∃ z, bs ua[i].2 = z := ⟨_, rfl⟩
                rw [hs1, hs3] at e1
                rw [hs2, hs4] at e2
                rw [hs1] at q1
                rw [hs2] at q2
                rw [hs3] at q3
                rw [hs4] at q4
                clear hs1 hs2 hs3 hs4
                by_cases h1 : ta[i].1 = ua[i].1
                · by_cases h2 : ta[i].2 = ua[i].2
                  · have f1 : (s1.toList == s3.toList) = true := by rw [e1, h1]; simp
                    have f2 : (s2.toList == s4.toList) = true := by rw [e2, h2]; simp
                    have Hab : Hid (ta[i] = ua[i]) := hid (Prod.ext h1 h2)
                    clear e1 e2 h1 h2
                    go_wp2_with (go_quiet (fail))
                    go_roundg (m - (i + 1))
                    case measure => omega
                    case rel => exact ⟨i + 1, by go_num, by omega, rfl, hid (by rw [List.take_succ_eq_append_getElem hlt1, List.take_succ_eq_append_getElem hlt2, hpre.out, Hab.out]), hid (hbr.out.trans (below_dN _ _ _))⟩
                  · have f1 : (s1.toList == s3.toList) = true := by rw [e1, h1]; simp
                    have f2 : (s2.toList == s4.toList) = false := by rw [e2]; simpa using h2
                    have Hn2 := hid h2
                    clear e1 e2 h1 h2
                    go_wp2_with (go_quiet (fail))
                    go_ret
                    refine ⟨?_, ?_⟩
                    · rw [show res = false from by
                        have : ta ≠ ua := fun e => by subst e; exact Hn2.out rfl
                        rw [Hres.out]; simp [this]] <;> rfl
                    · rw [hp1]; exact (HbW.out.trans (hbr.out.mono Hle.out)).trans (below_dN _ _ _)
                · have f1 : (s1.toList == s3.toList) = false := by rw [e1]; simpa using h1
                  have Hn1 := hid h1
                  clear e1 e2 h1
                  go_wp2_with (go_quiet (fail))
                  go_ret
                  refine ⟨?_, ?_⟩
                  · rw [show res = false from by
                      have : ta ≠ ua := fun e => by subst e; exact Hn1.out rfl
                      rw [Hres.out]; simp [this]] <;> rfl
                  · rw [hp1]; exact (HbW.out.trans (hbr.out.mono Hle.out)).trans (below_dN _ _ _)
              · obtain rfl : i = m := by omega
                have hpq : ta = ua := by
                  have := hpre.out
                  rwa [List.take_of_length_le (by rw [Hta.out]; exact Nat.le_refl _), List.take_of_length_le (by rw [Hua.out]; exact Nat.le_refl _)] at this
                have Hpq := hid hpq
                clear hpq
                go_wp2
                go_ret
                refine ⟨?_, ?_⟩
                · rw [show res = true from by
                    rw [Hres.out]
                    simp [Hpq.out]] <;> rfl
                · rw [hp1]; exact HbW.out.trans (hbr.out.mono Hle.out)
          · have hl1 : ((ta.length : Int) == (ua.length : Int)) = false := beq_eq_false_iff_ne.2 (by omega)
            have hl2 : (ta.length == ua.length) = false := beq_eq_false_iff_ne.2 hlen
            have hl3 : ((ta.length : Int) != (ua.length : Int)) = true := by rw [bne, hl1]; rfl
            have hl4 : ta ≠ ua := fun e => hlen (by rw [e])
            go_enter Tryd.func54, Tryd.ntmps54
            go_wp2
            go_ret
            refine ⟨?_, hbW⟩
            rw [show res = false from by rw [Hres.out]; simp [hl4]] <;> rfl
        · have hc1 : (tc == uc) = false := beq_eq_false_iff_ne.2 hc
          have hc2 : (tc != uc) = true := by rw [bne, hc1]; rfl
          go_enter Tryd.func54, Tryd.ntmps54
          go_wp2
          go_ret
          refine ⟨?_, hbW⟩
          rw [show res = false from by rw [Hres.out]; simp [hc]] <;> rfl
      · have hx1 : (tx == ux) = false := beq_eq_false_iff_ne.2 hx
        rw [hx1] at b2
        have hx2 : ((bs tx).toList != (bs ux).toList) = true := by rw [bne, b2]; rfl
        go_enter Tryd.func54, Tryd.ntmps54
        go_wp2
        go_ret
        refine ⟨?_, hbW⟩
        rw [show res = false from by rw [Hres.out]; simp [hx]] <;> rfl
    · have hn1 : (tn == un) = false := beq_eq_false_iff_ne.2 hn
      rw [hn1] at b1
      have hn2 : ((bs tn).toList != (bs un).toList) = true := by rw [bne, b1]; rfl
      go_enter Tryd.func54, Tryd.ntmps54
      go_wp2
      go_ret
      refine ⟨?_, hbW⟩
      rw [show res = false from by rw [Hres.out]; simp [hn]] <;> rfl
  · have hk1 : (tk == uk) = false := beq_eq_false_iff_ne.2 hk
    have hk2 : (tk != uk) = true := by rw [bne, hk1]; rfl
    go_enter Tryd.func54, Tryd.ntmps54
    go_wp2
    go_ret
    refine ⟨?_, hbW⟩
    rw [show res = false from by rw [Hres.out]; simp [hk]] <;> rfl
end Go.Proofs.YtihgmgpcdodknaaDoor
/- muslinref12.SameAll. -/
namespace Go.Proofs.YtihgmgpcdodknaaDoor
open Go.RowKit

def tksEq : List Tk → List Tk → Bool
  | [], [] => true
  | t :: r, u :: s => tkEq t u && tksEq r s
  | _, _ => false
theorem tksEq_iff : ∀ L M : List Tk, tksEq L M = true ↔ L = M
  | [], [] => by simp [tksEq]
  | [], _ :: _ => by simp [tksEq]
  | _ :: _, [] => by simp [tksEq]
  | t :: r, u :: s => by
    have ih := tksEq_iff r s
    have h := tkEq_iff t u
    rw [tksEq, Bool.and_eq_true, ih, h]
    simp
theorem tksEq_len {L M : List Tk} (h : L.length ≠ M.length) : tksEq L M = false := by
  rw [Bool.eq_false_iff]
  intro e
  exact h (by rw [(tksEq_iff L M).1 e])
theorem tkR_at {w : World} {B : Nat} : ∀ (L : List Tk) (cs : List Value), TkR w B cs L → ∀ (i : Nat) (hi : i < L.length), ∃ va, cs[i * 5]? = some (.int .i64 L[i].k) ∧ cs[i * 5 + 1]? = some (.string (bs L[i].n)) ∧ cs[i * 5 + 2]? = some (.string (bs L[i].x)) ∧ cs[i * 5 + 3]? = some va ∧ cs[i * 5 + 4]? = some (.bool L[i].c) ∧ AtR w B va L[i].ats
  | [], _, _, i, hi => absurd hi (by simp)
  | u :: r, cs, ⟨va, rest, e, ha, hr⟩, 0, _ => by
    subst e
    exact ⟨va, rfl, rfl, rfl, rfl, rfl, ha⟩
  | u :: r, cs, ⟨va, rest, e, ha, hr⟩, i + 1, hi => by
    obtain ⟨vb, h0, h1, h2, h3, h4, h5⟩ := tkR_at r rest hr i (by simpa using hi)
    subst e
    refine ⟨vb, ?_, ?_, ?_, ?_, ?_, h5⟩
    · rw [show (i + 1) * 5 = 5 + i * 5 from by omega, List.getElem?_append_right (by simp)]; simpa using h0
    · rw [show (i + 1) * 5 + 1 = 5 + (i * 5 + 1) from by omega, List.getElem?_append_right (by simp)]; simpa using h1
    · rw [show (i + 1) * 5 + 2 = 5 + (i * 5 + 2) from by omega, List.getElem?_append_right (by simp)]; simpa using h2
    · rw [show (i + 1) * 5 + 3 = 5 + (i * 5 + 3) from by omega, List.getElem?_append_right (by simp)]; simpa using h3
    · rw [show (i + 1) * 5 + 4 = 5 + (i * 5 + 4) from by omega, List.getElem?_append_right (by simp)]; simpa using h4
/-- a token of them, read -/
theorem tk_read {w : World} {B : Nat} {A : Option Addr} {L : List Tk} {cs : List Value} (hr : Reads w B 5 A L.length cs) (ht : TkR w B cs L) {i : Nat} (hi : i < L.length) :
    ∃ ad va, A = some ad ∧ ad.block < B ∧ w.cell? (ad.add (i * 5)) = some (.int .i64 L[i].k) ∧ w.cell? ⟨(ad.add (i * 5)).block, (ad.add (i * 5)).off + 1, none⟩ = some (.string (bs L[i].n)) ∧ w.cell? ⟨(ad.add (i * 5)).block, (ad.add (i * 5)).off + 2, none⟩ = some (.string (bs L[i].x)) ∧
      w.cell? ⟨(ad.add (i * 5)).block, (ad.add (i * 5)).off + 3, none⟩ = some va ∧ w.cell? ⟨(ad.add (i * 5)).block, (ad.add (i * 5)).off + 4, none⟩ = some (.bool L[i].c) ∧ AtR w B va L[i].ats := by
  obtain ⟨ad, e, hb, hc⟩ := hr.2 (by omega)
  obtain ⟨va, h0, h1, h2, h3, h4, h5⟩ := tkR_at L cs ht i hi
  have e1 : ∀ j, (⟨(ad.add (i * 5)).block, (ad.add (i * 5)).off + (j + 1), none⟩ : Addr) = ad.add (i * 5 + (j + 1)) := fun j => by rw [← add_of_add, Addr.add_succ']
  refine ⟨ad, va, e, hb, hc _ _ h0, ?_, ?_, ?_, ?_, h5⟩
  · rw [e1 0]; exact hc _ _ h1
  · rw [e1 1]; exact hc _ _ h2
  · rw [e1 2]; exact hc _ _ h3
  · rw [e1 3]; exact hc _ _ h4
theorem drop_at {α : Type} (L : List α) (i : Nat) (h : i < L.length) : L.drop i = L[i] :: L.drop (i + 1) := List.drop_eq_getElem_cons h
set_option maxRecDepth 100000 in
set_option maxHeartbeats 3200000 in
theorem sameAll_any (L M : List Tk) (V1 V2 : Value) (w : World) (h1 : TkA w w.heap.size V1 L) (h2 : TkA w w.heap.size V2 M) (hb : ∀ t ∈ L, t.ats.length ≤ 9223372036854775807) (hll : L.length ≤ 9223372036854775807) :
    Calls Tryd.prog 17 #[V1, V2] w fun e w' => e = .returned (.bool (tksEq L M)) ∧ Below w.heap.size w w' := by
  obtain ⟨A, ca, cs, rfl, hr1, ht1⟩ := h1
  obtain ⟨A', cb, ds, rfl, hr2, ht2⟩ := h2
  have Hb := hid hb
  obtain ⟨res, hres⟩ : ∃ res, tksEq L M = res := ⟨_, rfl⟩
  rw [hres]
  have Hres := hid hres
  obtain ⟨m, hm⟩ : ∃ m, L.length = m := ⟨_, rfl⟩
  obtain ⟨n, hn⟩ : ∃ n, M.length = n := ⟨_, rfl⟩
  have Hm := hid hm
  have Hn := hid hn
  have Hr1 := hid hr1
  have Hr2 := hid hr2
  have Ht1 := hid ht1
  have Ht2 := hid ht2
  rw [hm, hn]
  rw [hm] at hll
  clear hb hres hm hn hr1 hr2 ht1 ht2
  by_cases hl : m = n
  · subst hl
    go_enter Tryd.func17, Tryd.ntmps17
    go_wp2
    go_loopg [5] m (fun g v5 wr => ∃ i : Nat, v5 = .int .i64 (i : Int) ∧ i ≤ m ∧ g = m - i ∧ Hid (tksEq L M = tksEq (L.drop i) (M.drop i)) ∧ Hid (Below w.heap.size w wr))
    case atStart => exact ⟨0, rfl, Nat.zero_le _, rfl, hid rfl, hid (Below.refl _ _)⟩
    case round =>
      obtain ⟨i, rfl, hi, rfl, heq, hbr⟩ := hrel
      have hi0 : (0 : Int) ≤ (i : Int) := by omega
      by_cases hlt : i < m
      · have hlt1 : i < L.length := by rw [Hm.out]; exact hlt
        have hlt2 : i < M.length := by rw [Hn.out]; exact hlt
        have hil : (i : Int) < (m : Int) := by omega
        have hild : decide ((i : Int) < (m : Int)) = true := decide_eq_true hil
        obtain ⟨ad, va, rfl, hadb, p0, p1, p2, p3, p4, p5⟩ := tk_read (Hr1.out.below hbr.out) (TkR.map (fun v l hv => hv.below hbr.out) L cs Ht1.out) hlt1
        obtain ⟨ae, vb, rfl, haeb, q0, q1, q2, q3, q4, q5⟩ := tk_read (Hr2.out.below hbr.out) (TkR.map (fun v l hv => hv.below hbr.out) M ds Ht2.out) hlt2
        have Hsm := hid (fun W (hb0 : Below wr.heap.size wr W) => same_any L[i] M[i] va vb W (((p5.more hbr.out.size).below hb0).more hb0.size) (((q5.more hbr.out.size).below hb0).more hb0.size) (Hb.out _ (List.getElem_mem hlt1)))
        obtain ⟨bq, hbq⟩ : ∃ bq, tkEq L[i] M[i] = bq := ⟨_, rfl⟩
        rw [hbq] at Hsm
        have Hst : Hid (tksEq L M = (bq && tksEq (L.drop (i + 1)) (M.drop (i + 1)))) := hid (by rw [heq.out, drop_at L i hlt1, drop_at M i hlt2, tksEq, hbq])
        clear p5 q5 hbq
        generalize L[i].k = k1 at *
        generalize M[i].k = k2 at *
        generalize L[i].c = c1 at *
        generalize M[i].c = c2 at *
        generalize bs L[i].n = n1 at *
        generalize bs M[i].n = n2 at *
        generalize bs L[i].x = x1 at *
        generalize bs M[i].x = x2 at *
        cases bq with
        | true =>
          go_wp2_with fail
          refine wp_region_noPanic ?_
          go_region_law ((go_simp; go_at_call 54; refine (Hsm.out _ (by exact (Below.refl _ _).drew)).mono ?_; rintro e w2 ⟨rfl, hbk⟩; dsimp only))
          all_goals
            refine NoPanic.normal ?_
            have hbw := hid (hbr.out.trans ((((Below.refl _ _).drew).trans hbk).mono hbr.out.size))
            go_wp2
            go_roundg (m - (i + 1))
            case measure => omega
            case rel =>
              have hi1 : i + 1 ≤ m := by omega
              exact ⟨i + 1, by go_num, hi1, rfl, hid (by rw [Hst.out, Bool.true_and]), hid hbw.out⟩
        | false =>
          go_wp2_with fail
          refine wp_region_noPanic ?_
          go_region_law ((go_simp; go_at_call 54; refine (Hsm.out _ (by exact (Below.refl _ _).drew)).mono ?_; rintro e w2 ⟨rfl, hbk⟩; dsimp only))
          all_goals
            refine NoPanic.normal ?_
            have hbw := hid (hbr.out.trans ((((Below.refl _ _).drew).trans hbk).mono hbr.out.size))
            go_wp2
            go_ret
            refine ⟨?_, hbw.out⟩
            rw [show res = false from by rw [← Hres.out, Hst.out]; rfl] <;> rfl
      · obtain rfl : i = m := by omega
        go_wp2
        go_ret
        refine ⟨?_, hbr.out⟩
        rw [show res = true from by rw [← Hres.out, heq.out, List.drop_of_length_le (by rw [Hm.out]; exact Nat.le_refl _), List.drop_of_length_le (by rw [Hn.out]; exact Nat.le_refl _)]; rfl] <;> rfl
  · have hl1 : ((m : Int) == (n : Int)) = false := beq_eq_false_iff_ne.2 (by omega)
    have hl2 : (m == n) = false := beq_eq_false_iff_ne.2 hl
    have hl3 : ((m : Int) != (n : Int)) = true := by rw [bne, hl1]; rfl
    go_enter Tryd.func17, Tryd.ntmps17
    go_wp2
    go_ret
    refine ⟨?_, Below.refl _ _⟩
    rw [show res = false from by rw [← Hres.out]; exact tksEq_len (by rw [Hm.out, Hn.out]; exact hl)] <;> rfl
end Go.Proofs.YtihgmgpcdodknaaDoor
/- Tokens spoilt in memory: what a walk that overwrites them keeps. -/
namespace Go.Proofs.YtihgmgpcdodknaaDoor
open Go.RowKit

theorem OwnA.len_le {w : World} {base : Nat} {v : Value} {l : List Att} (h : OwnA w base v l) : l.length ≤ 9223372036854775807 := by
  rcases h.2 with ⟨_, h0⟩ | ⟨g, cap, cur, e, hb, hg, h1, h2, _⟩
  · omega
  · have : maxLen = 9223372036854775807 := by decide
    omega
theorem TkCells.len_le {w : World} {base : Nat} : ∀ (L : List Tk) (cs : List Value), TkCells w base cs L → ∀ t ∈ L, t.ats.length ≤ 9223372036854775807
  | [], _, _, t, ht => by simp at ht
  | u :: r, cs, ⟨va, rest, e, ha, hr⟩, t, ht => by
    rcases List.mem_cons.1 ht with rfl | h
    · exact ha.len_le
    · exact TkCells.len_le r rest hr t h
theorem OwnT.ats_le {w : World} {base : Nat} {V : Value} {L : List Tk} (h : OwnT w base V L) : ∀ t ∈ L, t.ats.length ≤ 9223372036854775807 := by
  obtain ⟨cs, hc, _⟩ := h
  exact hc.len_le
theorem OwnT.len_le {w : World} {base : Nat} {V : Value} {L : List Tk} (h : OwnT w base V L) : L.length ≤ 9223372036854775807 := by
  obtain ⟨cs, _, ho⟩ := h
  rcases ho.2 with ⟨_, h0⟩ | ⟨g, cap, cur, e, hb, hg, h1, h2, _⟩
  · omega
  · have : maxLen = 9223372036854775807 := by decide
    omega
/-- a row of attributes that may be overwritten -/
def RowOk (base top : Nat) (W : World) (v : Value) : Prop :=
  ∃ (A : Option Addr) (m c : Nat), v = .slice A m c ∧ m ≤ 9223372036854775807 ∧ (0 < m → ∃ ga cur, A = some ⟨ga, 0, none⟩ ∧ base ≤ ga ∧ ga < top ∧ Blk W ga 95 cur ∧ m * 2 ≤ cur.size)
theorem RowOk.of_own {base top : Nat} {w : World} {v : Value} {l : List Att} (h : OwnA w base v l) (ht : w.heap.size ≤ top) : RowOk base top w v := by
  have hl := h.len_le
  rcases h.2 with ⟨rfl, h0⟩ | ⟨g, cap, cur, rfl, hb, hg, h1, h2, h3, h4⟩
  · exact ⟨none, 0, 0, rfl, by omega, fun h => absurd h (by omega)⟩
  · have := Blk.lt (t := 95) (cs := cur) hg
    exact ⟨_, _, _, rfl, hl, fun _ => ⟨g, cur, rfl, hb, by omega, hg, by rw [h3]; exact Nat.mul_le_mul_right _ h1⟩⟩
theorem RowOk.nil (base top : Nat) (W : World) : RowOk base top W (.slice none 0 0) := ⟨none, 0, 0, rfl, by omega, fun h => absurd h (by omega)⟩
theorem RowOk.set {base top : Nat} {W : World} {v : Value} (h : RowOk base top W v) (b o : Nat) (u : Value) : RowOk base top (W.setCell ⟨b, o, none⟩ u) v := by
  obtain ⟨A, m, c, rfl, hm, h⟩ := h
  refine ⟨A, m, c, rfl, hm, fun h0 => ?_⟩
  obtain ⟨ga, cur, e, h1, h2, h3, h4⟩ := h h0
  by_cases hg : ga = b
  · subst hg
    exact ⟨ga, _, e, h1, h2, h3.set_ o u, by simpa using h4⟩
  · exact ⟨ga, cur, e, h1, h2, h3.far hg u, h4⟩
theorem RowOk.same {base top : Nat} {W W' : World} {v : Value} (h : RowOk base top W v) (hk : ∀ g, g < W.heap.size → W'.heap[g]? = W.heap[g]?) : RowOk base top W' v := by
  obtain ⟨A, m, c, rfl, hm, h⟩ := h
  refine ⟨A, m, c, rfl, hm, fun h0 => ?_⟩
  obtain ⟨ga, cur, e, h1, h2, h3, h4⟩ := h h0
  exact ⟨ga, cur, e, h1, h2, (hk ga h3.lt).trans h3, h4⟩
/-- tokens, spoilt or not: only blocks from 'base' to 'top' are written -/
structure Sp (base top : Nat) (w2 : World) (A : Option Addr) (n : Nat) (W : World) : Prop where
  os : W.os = w2.os
  tape : W.tape = w2.tape
  output : W.output = w2.output
  size : W.heap.size = w2.heap.size
  far : ∀ k, (k < base ∨ top ≤ k) → W.heap[k]? = w2.heap[k]?
  rows : 0 < n → ∃ g cur, A = some ⟨g, 0, none⟩ ∧ base ≤ g ∧ g < top ∧ Blk W g 53 cur ∧ n * 5 ≤ cur.size ∧ ∀ j, j < n → ∃ v, cur[j * 5 + 3]? = some v ∧ RowOk base top W v
theorem Sp.of_own {base top n c : Nat} {w w2 : World} {A : Option Addr} {L : List Tk} (h : OwnT w base (.slice A n c) L) (ht : w.heap.size ≤ top) (hk : ∀ g, g < w.heap.size → w2.heap[g]? = w.heap[g]?) : Sp base top w2 A n w2 := by
  refine ⟨rfl, rfl, rfl, rfl, fun _ _ => rfl, fun hn => ?_⟩
  obtain ⟨cs, hc, ho⟩ := h
  rcases ho.2 with ⟨h0, h1⟩ | ⟨g, cap, cur, e, hb, hg, h1, h2, h3, h4⟩
  · injection h0 with _ h2 _; omega
  · injection e with e1 e2 e3
    subst e2
    have hlt := Blk.lt (t := 53) (cs := cur) hg
    refine ⟨g, cur, e1, hb, by omega, (hk g hlt).trans hg, by rw [h3]; exact Nat.mul_le_mul_right _ h1, fun j hj => ?_⟩
    obtain ⟨va, -, -, -, q3, -, hA⟩ := tkcells_at L cs hc j L[j] (List.getElem?_eq_getElem hj)
    refine ⟨va, ?_, (RowOk.of_own hA ht).same hk⟩
    rw [← h4, List.getElem?_take] at q3
    split at q3
    · rw [← Array.getElem?_toList, show j * 5 + 3 = 5 * j + 3 from by omega]; exact q3
    · cases q3
theorem Sp.set {base top n : Nat} {w2 W : World} {A : Option Addr} (h : Sp base top w2 A n W) {b : Nat} (hb : base ≤ b) (ht : b < top) (o : Nat) (u : Value)
    (hu : ∀ j, j < n → A = some ⟨b, 0, none⟩ → o = j * 5 + 3 → RowOk base top W u) : Sp base top w2 A n (W.setCell ⟨b, o, none⟩ u) := by
  refine ⟨h.os, h.tape, h.output, by simpa [World.setCell] using h.size, fun k hk => (Below.heap_setCell W _ _ k (by simp; omega)).trans (h.far k hk), fun hn => ?_⟩
  obtain ⟨g, cur, e, h1, h2, h3, h4, h5⟩ := h.rows hn
  by_cases hg : g = b
  · subst hg
    refine ⟨g, _, e, h1, h2, h3.set_ o u, by simpa using h4, fun j hj => ?_⟩
    obtain ⟨v, hv, hr⟩ := h5 j hj
    by_cases ho : o = j * 5 + 3
    · subst ho
      refine ⟨u, ?_, (hu j hj e rfl).set g _ u⟩
      rw [Array.getElem?_setIfInBounds_self_of_lt (by omega)]
    · exact ⟨v, by rw [Array.getElem?_setIfInBounds_ne ho]; exact hv, hr.set g o u⟩
  · refine ⟨g, cur, e, h1, h2, h3.far hg u, h4, fun j hj => ?_⟩
    obtain ⟨v, hv, hr⟩ := h5 j hj
    exact ⟨v, hv, hr.set b o u⟩
theorem add0 (g k : Nat) : (⟨g, 0, none⟩ : Addr).add k = ⟨g, k, none⟩ := by
  unfold Addr.add
  split
  · rename_i h; subst h; rfl
  · simp
/-- the row of token number j -/
theorem Sp.row {base top n : Nat} {w2 W : World} {A : Option Addr} (h : Sp base top w2 A n W) {j : Nat} (hj : j < n) :
    ∃ (g : Nat) (Ar : Option Addr) (m c : Nat), A = some ⟨g, 0, none⟩ ∧ W.cell? ⟨g, j * 5 + 3, none⟩ = some (.slice Ar m c) ∧ RowOk base top W (.slice Ar m c) ∧ m ≤ 9223372036854775807 := by
  obtain ⟨g, cur, rfl, h1, h2, h3, h4, h5⟩ := h.rows (by omega)
  obtain ⟨v, hv, hr⟩ := h5 j hj
  have hr' := hr
  obtain ⟨Ar, m, c, rfl, hm, _⟩ := hr'
  exact ⟨_, Ar, m, c, rfl, by rw [h3.cell, hv], hr, hm⟩
/-- where the attributes of a row lie -/
theorem Sp.attr {base top n m c : Nat} {w2 W : World} {A Ar : Option Addr} (h : Sp base top w2 A n W) (hn : 0 < n) (hr : RowOk base top W (.slice Ar m c)) {k : Nat} (hk : k < m) :
    ∃ (ga : Nat), Ar = some ⟨ga, 0, none⟩ ∧ (∃ x, W.cell? ⟨ga, k * 2, none⟩ = some x) ∧ (∃ x, W.cell? ⟨ga, k * 2 + 1, none⟩ = some x) ∧ (∀ o, W.frozen? ⟨ga, o, none⟩ = false) ∧
      ∀ u0 u1, Sp base top w2 A n ((W.setCell ⟨ga, k * 2, none⟩ u0).setCell ⟨ga, k * 2 + 1, none⟩ u1) ∧
        RowOk base top ((W.setCell ⟨ga, k * 2, none⟩ u0).setCell ⟨ga, k * 2 + 1, none⟩ u1) (.slice Ar m c) ∧
        (∀ (g o : Nat), A = some ⟨g, 0, none⟩ → ((W.setCell ⟨ga, k * 2, none⟩ u0).setCell ⟨ga, k * 2 + 1, none⟩ u1).cell? ⟨g, o, none⟩ = W.cell? ⟨g, o, none⟩) := by
  obtain ⟨g, cur, rfl, g1, g2, g3, g4, g5⟩ := h.rows hn
  obtain ⟨Ar', m', c', e, hm, hx⟩ := hr
  injection e with e1 e2 e3
  subst e1; subst e2; subst e3
  obtain ⟨ga, cu, rfl, h1, h2, h3, h4⟩ := hx (by omega)
  have hne : g ≠ ga := g3.ne_ h3 (by decide)
  have hrow : RowOk base top W (.slice (some ⟨ga, 0, none⟩) m c) := ⟨_, m, c, rfl, hm, hx⟩
  have hs1 := fun u0 => h.set (b := ga) h1 h2 (k * 2) u0 (fun j hj e => absurd (by injection e with e; injection e) hne)
  refine ⟨_, rfl, ⟨cu[k * 2]'(by omega), by rw [h3.cell]; exact Array.getElem?_eq_getElem _⟩, ⟨cu[k * 2 + 1]'(by omega), by rw [h3.cell]; exact Array.getElem?_eq_getElem _⟩, fun o => h3.frozen o, fun u0 u1 => ⟨(hs1 u0).set h1 h2 _ u1 (fun j hj e => absurd (by injection e with e; injection e) hne), (hrow.set ga _ u0).set ga _ u1, ?_⟩⟩
  intro g' o e
  injection e with e
  injection e with e
  subst e
  rw [((g3.far (p := ⟨ga, k * 2, none⟩) hne u0).far (p := ⟨ga, k * 2 + 1, none⟩) hne u1).cell, g3.cell]
/-- where a token lies -/
theorem Sp.tok {base top n : Nat} {w2 W : World} {A : Option Addr} (h : Sp base top w2 A n W) {j : Nat} (hj : j < n) :
    ∃ (g : Nat), A = some ⟨g, 0, none⟩ ∧ (∀ o, o < 5 → ∃ x, W.cell? ⟨g, j * 5 + o, none⟩ = some x) ∧ (∀ o, W.frozen? ⟨g, o, none⟩ = false) ∧
      ∀ u0 u1 u2 u4, Sp base top w2 A n (((((W.setCell ⟨g, j * 5, none⟩ u0).setCell ⟨g, j * 5 + 1, none⟩ u1).setCell ⟨g, j * 5 + 2, none⟩ u2).setCell ⟨g, j * 5 + 3, none⟩ (.slice none 0 0)).setCell ⟨g, j * 5 + 4, none⟩ u4) := by
  obtain ⟨g, cur, rfl, g1, g2, g3, g4, g5⟩ := h.rows (by omega)
  refine ⟨_, rfl, fun o h1 => ⟨cur[j * 5 + o]'(by omega), by rw [g3.cell]; exact Array.getElem?_eq_getElem _⟩, fun o => g3.frozen o, fun u0 u1 u2 u4 => ?_⟩
  exact ((((h.set g1 g2 _ u0 (fun k hk _ (e : j * 5 = k * 5 + 3) => absurd e (by omega))).set g1 g2 _ u1 (fun k hk _ (e : j * 5 + 1 = k * 5 + 3) => absurd e (by omega))).set g1 g2 _ u2 (fun k hk _ (e : j * 5 + 2 = k * 5 + 3) => absurd e (by omega))).set g1 g2 _ (.slice none 0 0) (fun k hk _ e => RowOk.nil _ _ _)).set g1 g2 _ u4 (fun k hk _ (e : j * 5 + 4 = k * 5 + 3) => absurd e (by omega))
theorem Sp.below {base top n b0 : Nat} {w w2 W : World} {A : Option Addr} (h : Sp base top w2 A n W) (hb : Below b0 w w2) (h0 : b0 ≤ base) : Below b0 w W :=
  ⟨h.os.trans hb.os, h.tape.trans hb.tape, h.output.trans hb.output, by rw [h.size]; exact hb.size, fun k hk => (h.far k (.inl (by omega))).trans (hb.block k hk)⟩
end Go.Proofs.YtihgmgpcdodknaaDoor
