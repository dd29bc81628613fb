/- tokens.one. -/
import Derived.Test.YtihgmgpcdodknaaDoorCkB
import Derived.Test.YtihgmgpcdodknaaDoorTkB
import Derived.Test.YtihgmgpcdodknaaDoorEsB
import Derived.Test.YtihgmgpcdodknaaDoorBldT
import Derived.Deep.CutBlock
set_option linter.unusedVariables false
namespace Go.Proofs.YtihgmgpcdodknaaDoor
open Go.RowKit

theorem escL_lenB (l : List UInt8) : (escL l).length ≤ 20 * l.length := by
  have h := esc_len (bs l) (bs (escL l)) (by rw [bs_list, bs_list])
  rw [← len_data, bs_list, ← len_data, bs_list] at h
  exact h
theorem wrA_lenB : ∀ l : List Att, (wrA l).length ≤ 20 * attsLen l + 4 * l.length
  | [] => Nat.zero_le _
  | a :: r => by
    have ih := wrA_lenB r
    have he := escL_lenB a.2
    have h : wrA (a :: r) = (32 :: (a.1 ++ 61 :: 34 :: (escL a.2 ++ [34]))) ++ wrA r := rfl
    rw [h, List.length_append, attsLen_cons, List.length_cons]
    simp only [List.length_cons, List.length_append, List.length_nil]
    omega
theorem attsLen_takeB (l : List Att) (i : Nat) : attsLen (l.take i) ≤ attsLen l := by
  induction l generalizing i with
  | nil => simp
  | cons a r ih =>
    cases i with
    | zero => exact Nat.zero_le _
    | succ i =>
      rw [List.take_succ_cons, attsLen_cons, attsLen_cons]
      have := ih i; omega
theorem wrA_snocB (l : List Att) (i : Nat) (h : i < l.length) : wrA (l.take (i + 1)) = wrA (l.take i) ++ (32 :: (l[i].1 ++ 61 :: 34 :: (escL l[i].2 ++ [34]))) := by
  unfold wrA
  rw [List.take_succ_eq_append_getElem h, List.flatMap_append]
  simp
/-- the token's copy, the builder, what was there ahead -/
structure Wn (w0 w : World) (b D : Nat) (l : List UInt8) (T : Nat) (cs : Array Value) (W : World) : Prop where
  B : Bld b D l W
  bel : Below w0.heap.size w0 W
  fr : Below b w W
  T : Blk W T 53 cs
  lo : w0.heap.size ≤ b
section
variable {w0 w W W' : World} {b D T : Nat} {l l' : List UInt8} {cs : Array Value}
theorem Wn.keep (h : Wn w0 w b D l T cs W) (hb : Below W.heap.size W W') : Wn w0 w b D l T cs W' :=
  ⟨h.B.keep hb, h.bel.trans (hb.mono h.bel.size), h.fr.trans (hb.mono (Nat.le_of_lt h.B.lt)), h.T.below hb h.T.lt, h.lo⟩
theorem Wn.alloc (h : Wn w0 w b D l T cs W) (o : Obj) : Wn w0 w b D l T cs (W.alloc o) := h.keep (alloc_below W o)
theorem Wn.drew (h : Wn w0 w b D l T cs W) : Wn w0 w b D l T cs W.drew := h.keep ((Below.refl _ _).drew)
theorem Bld.bnd {w : World} (h : Bld b D l w) : b ≤ D := Nat.le_of_lt h.1
theorem Wn.ne (h : Wn w0 w b D l T cs W) : T ≠ b := by
  obtain ⟨_, _, p, v, h3, _⟩ := h.B
  exact Blk.ne_ (t := 53) (t' := 57) h.T h3 (by decide)
theorem Wn.ws (h : Wn w0 w b D l T cs W) (hB : Bld b D l' W') (hx : BelowX b D W W') (ht : BelowT b W W') : Wn w0 w b D l' T cs W' :=
  ⟨hB, h.bel.trans ((hx.below h.B.bnd).mono h.lo), h.fr.trans (hx.below h.B.bnd), (ht.block T _ _ _ h.T h.ne (by decide)).trans h.T, h.lo⟩
theorem Wn.far (h : Wn w0 w b D l T cs W) {p : Addr} {u : Value} (hp : p.block < w0.heap.size) (hc : w0.cell? p = some u) : W.cell? p = some u := (h.bel.cell hp).trans hc
end
theorem Blk.wsb {W W' : World} {b D g : Nat} {l : List UInt8} {cs : Array Value} (h : Blk W g 95 cs) (hB : Bld b D l W) (ht : BelowT b W W') : Blk W' g 95 cs := by
  obtain ⟨_, _, p, v, h3, _⟩ := hB
  exact (ht.block g _ _ _ h (Blk.ne_ (t := 95) (t' := 57) h h3 (by decide)) (by decide)).trans h
/-- what one answers -/
def ROne (w : World) (b D : Nat) (l : List UInt8) (w0 : World) (e : Ending) (w' : World) : Prop := e = .returned (.tuple #[]) ∧ Bld b D l w' ∧ Below b w w' ∧ Below w0.heap.size w0 w'
set_option maxRecDepth 100000 in
set_option maxHeartbeats 12800000 in
theorem oneB_any (t : Tk) (va : Value) (b D : Nat) (l : List UInt8) (w0 w : World) (hB : Bld b D l w) (h0 : Below w0.heap.size w0 w) (hlo : w0.heap.size ≤ b) (ha : AtR w0 w0.heap.size va t.ats) (hT : TabsAt w0) (hl : l.length ≤ 65536) (hz : TkB 1048576 t) (hk0 : t.k = 1 ∨ t.k = 2 ∨ t.k = 3 ∨ t.k = 4) :
    Calls Tryd.prog 47 #[.pointer (some ⟨b, 0, none⟩), .agg #[.int .i64 t.k, .string (bs t.n), .string (bs t.x), va, .bool t.c]] w (ROne w b D (l ++ wrT t) w0) := by
  obtain ⟨A5, c5, rfl, hr5⟩ := ha
  have HTab := hid (fun W (h : Below w0.heap.size w0 W) => hT.keep h)
  have HEs := hid (fun s W hs (h : Below w0.heap.size w0 W) => escape06_any s W hs (hT.keep h))
  have HWs := hid (fun l s W h hlen => writeStringT_any b D l s W h hlen)
  have HWb := hid (fun l c W h h0 h1 hlen => writeByte_any b D l c W h h0 h1 hlen)
  obtain ⟨k, hk⟩ : ∃ k, t.k = k := ⟨_, rfl⟩
  obtain ⟨tn, htn⟩ : ∃ x, bs t.n = x := ⟨_, rfl⟩
  obtain ⟨tx, htx⟩ : ∃ x, bs t.x = x := ⟨_, rfl⟩
  obtain ⟨c, hc⟩ : ∃ x, t.c = x := ⟨_, rfl⟩
  obtain ⟨n5, hn5⟩ : ∃ x, t.ats.length = x := ⟨_, rfl⟩
  have hln : tn.data.toList = t.n := by rw [← htn, bs_list]
  have hlx : tx.data.toList = t.x := by rw [← htx, bs_list]
  have hzn : tn.size ≤ 1048576 := by rw [← len_data, hln]; exact hz.2.1
  have hzx : tx.size ≤ 1048576 := by rw [← len_data, hlx]; exact hz.2.2.1
  have Htl := hid hz.2.2.2
  have hn5b : n5 ≤ 1048576 := by rw [← hn5]; exact hz.1
  rw [hk, htn, htx, hc, hn5]
  rw [hk] at hk0
  have Hk := hid hk
  have Hln := hid hln
  have Hlx := hid hlx
  have Hc := hid hc
  have Hn5 := hid hn5
  have Hr5 := hid hr5
  have hwl : (wrT t).length ≤ 100000000 := by
    have h1 := wrA_lenB t.ats
    have h2 := escL_lenB t.x
    have h3 := hz.1
    have h4 := hz.2.1
    have h5 := hz.2.2.1
    have h6 := hz.2.2.2
    unfold wrT
    split
    · simp only [List.length_cons, List.length_append]
      split <;> simp <;> omega
    · split
      · simp; omega
      · split
        · omega
        · simp; omega
  obtain ⟨W, hW⟩ : ∃ W, w.alloc (.cells #[.int .i64 k, .string tn, .string tx, .slice A5 n5 c5, .bool c] 53) = W := ⟨_, rfl⟩
  have hal : Below w.heap.size w W := by rw [← hW]; exact alloc_below w _
  have HW0 : Hid (Wn w0 w b D l w.heap.size #[.int .i64 k, .string tn, .string tx, .slice A5 n5 c5, .bool c] W) := hid ⟨hB.keep hal, h0.trans (hal.mono h0.size), hal.mono (Nat.le_of_lt hB.lt), by rw [← hW]; exact Blk.new w _ _, hlo⟩
  obtain ⟨pt, hpt⟩ : ∃ p, w.heap.size = p := ⟨_, rfl⟩
  rw [hpt] at HW0
  have T0 : W.cell? ⟨pt, 0, none⟩ = some (.int .i64 k) := (HW0.out.T.cell 0).trans rfl
  have T1 : W.cell? ⟨pt, 1, none⟩ = some (.string tn) := (HW0.out.T.cell 1).trans rfl
  have T2 : W.cell? ⟨pt, 2, none⟩ = some (.string tx) := (HW0.out.T.cell 2).trans rfl
  have T3 : W.cell? ⟨pt, 3, none⟩ = some (.slice A5 n5 c5) := (HW0.out.T.cell 3).trans rfl
  have T4 : W.cell? ⟨pt, 4, none⟩ = some (.bool c) := (HW0.out.T.cell 4).trans rfl
  clear hk htn htx hc hn5 hln hlx hz hr5 hB h0 hal hT
  go_enter Tryd.func47, Tryd.ntmps47
  by_cases h3 : k = 3
  · subst h3
    go_wp2_with (first
      | (go_at_call 34; refine (HEs.out tx _ (by omega) HW0.out.bel).mono ?_; rintro e w3 ⟨x, rfl, hx, hb3⟩; have HW3 := hid (HW0.out.keep hb3); have HwT : Hid (wrT t = x.data.toList) := hid (by unfold wrT; rw [if_neg (by rw [Hk.out]; decide), if_neg (by rw [Hk.out]; decide), if_pos Hk.out, hx.out, Hlx.out]); have hxz : x.size ≤ 100000000 := (by rw [← len_data, ← HwT.out]; exact hwl))
      | (go_at_call 65; refine (HWs.out l x _ HW3.out.B (by omega)).mono ?_; rintro e w4 ⟨rfl, hB4, hx4, ht4⟩; have HW4 := hid (HW3.out.ws hB4 hx4 ht4)))
    go_end0
    exact ⟨rfl, by rw [HwT.out]; exact HW4.out.B, HW4.out.fr, HW4.out.bel⟩
  · have h3b : (k == 3) = false := beq_eq_false_iff_ne.2 h3
    by_cases h4 : k = 4
    · subst h4
      have d1 : ¬ 9223372036854775807 < 4 + tx.size := by omega
      have d2 : ¬ 9223372036854775807 < 4 + tx.size + 3 := by omega
      have HwT : Hid (wrT t = (⟨#[60, 33, 45, 45]⟩ ++ tx ++ ⟨#[45, 45, 62]⟩ : ByteArray).data.toList) := hid (by
        unfold wrT
        rw [if_neg (by rw [Hk.out]; decide), if_neg (by rw [Hk.out]; decide), if_neg (by rw [Hk.out]; decide), data_append, data_append, Hlx.out]; simp)
      go_wp2_with (go_at_call 65; refine (HWs.out l _ _ HW0.out.B (by rw [← len_data, ← HwT.out]; omega)).mono ?_; rintro e w4 ⟨rfl, hB4, hx4, ht4⟩; have HW4 := hid (HW0.out.ws hB4 hx4 ht4))
      go_end0
      exact ⟨rfl, by rw [HwT.out]; exact HW4.out.B, HW4.out.fr, HW4.out.bel⟩
    · have h4b : (k == 4) = false := beq_eq_false_iff_ne.2 h4
      by_cases h2 : k = 2
      · subst h2
        have d1 : ¬ 9223372036854775807 < 2 + tn.size := by omega
        have d2 : ¬ 9223372036854775807 < 2 + tn.size + 1 := by omega
        have HwT : Hid (wrT t = (⟨#[60, 47]⟩ ++ tn ++ ⟨#[62]⟩ : ByteArray).data.toList) := hid (by
          unfold wrT
          rw [if_neg (by rw [Hk.out]; decide), if_pos Hk.out, data_append, data_append, Hln.out]; simp)
        go_wp2_with (go_at_call 65; refine (HWs.out l _ _ HW0.out.B (by rw [← len_data, ← HwT.out]; omega)).mono ?_; rintro e w4 ⟨rfl, hB4, hx4, ht4⟩; have HW4 := hid (HW0.out.ws hB4 hx4 ht4))
        go_end0
        exact ⟨rfl, by rw [HwT.out]; exact HW4.out.B, HW4.out.fr, HW4.out.bel⟩
      · have h2b : (k == 2) = false := beq_eq_false_iff_ne.2 h2
        obtain rfl : k = 1 := by omega
        have d1 : ¬ 9223372036854775807 < 1 + tn.size := by omega
        have HwT0 : Hid (wrT t = 60 :: (tn.data.toList ++ (wrA t.ats ++ ((if c then [47] else []) ++ [62])))) := hid (by
          unfold wrT
          rw [if_pos Hk.out, Hln.out, Hc.out])
        have hwa : (wrA t.ats).length ≤ 30000000 := by have := wrA_lenB t.ats; have := Htl.out; have := Hn5.out; omega
        have hnl := hid (len_data tn)
        clear hwl
        go_upto_region 3 with (go_at_call 65; refine (HWs.out l _ _ HW0.out.B (by rw [ByteArray.size_append]; show l.length + (1 + tn.size) ≤ _; omega)).mono ?_; rintro e w4 ⟨rfl, hB4, hx4, ht4⟩)
        have HW4 : Hid (Wn w0 w b D (l ++ 60 :: tn.data.toList) pt #[.int .i64 1, .string tn, .string tx, .slice A5 n5 c5, .bool c] w4) := hid (by have h := HW0.out.ws hB4 hx4 ht4; rw [data_append] at h; exact h)
        clear hB4 hx4 ht4 T0 T1 T2 T3 T4
        have t3 : w4.cell? ⟨pt, 3, none⟩ = some (.slice A5 n5 c5) := (HW4.out.T.cell 3).trans rfl
        go_wp2_with fail
        clear t3
        go_loopg [16] n5 (fun g v16 wx => ∃ a : Nat, v16 = .int .i64 (a : Int) ∧ a ≤ n5 ∧ g = n5 - a ∧ Hid (Wn w0 w b D (l ++ 60 :: (tn.data.toList ++ wrA (t.ats.take a))) pt #[.int .i64 1, .string tn, .string tx, .slice A5 n5 c5, .bool c] wx))
        case atStart => exact ⟨0, rfl, Nat.zero_le _, rfl, hid (by simpa [wrA] using HW4.out)⟩
        case round =>
          obtain ⟨a, rfl, ha, rfl, HW5⟩ := hrel
          rename World => w5
          have ha0 : (0 : Int) ≤ (a : Int) := by omega
          obtain ⟨l5, hl5⟩ : ∃ z, l ++ 60 :: (tn.data.toList ++ wrA (t.ats.take a)) = z := ⟨_, rfl⟩
          have hlen5 : l5.length ≤ 40000000 := by
            have h1 := wrA_lenB (t.ats.take a)
            have h2 := attsLen_takeB t.ats a
            have h3 := Htl.out
            have h4 := List.length_take_le a t.ats
            have h5 := Hn5.out
            have h6 := hnl.out
            rw [← hl5]
            simp only [List.length_append, List.length_cons]
            omega
          have Hl5 := hid hl5
          rw [hl5] at HW5
          clear hl5
          by_cases hal : a < n5
          · have hal1 : a < t.ats.length := by rw [Hn5.out]; exact hal
            have hai : (a : Int) < (n5 : Int) := by omega
            have had : decide ((a : Int) < (n5 : Int)) = true := decide_eq_true hai
            have hr6 : Reads w0 w0.heap.size 2 A5 t.ats.length (attCells t.ats) := Hr5.out
            obtain ⟨aa, rfl, haab, q1, q2⟩ := at_cells hr6 hal1
            obtain ⟨s1, hs1⟩ : ∃ x, bs t.ats[a].1 = x := ⟨_, rfl⟩
            obtain ⟨s2, hs2⟩ : ∃ x, bs t.ats[a].2 = x := ⟨_, rfl⟩
            rw [hs1] at q1
            rw [hs2] at q2
            have e1 : s1.data.toList = t.ats[a].1 := by rw [← hs1, bs_list]
            have e2 : s2.data.toList = t.ats[a].2 := by rw [← hs2, bs_list]
            have hm := attsLen_mem (List.getElem_mem hal1)
            have hz1 : s1.size ≤ 1048576 := by rw [← len_data, e1]; have := Htl.out; omega
            have hz2 : s2.size ≤ 1048576 := by rw [← len_data, e2]; have := Htl.out; omega
            have He1 := hid e1
            have He2 := hid e2
            have d2 : ¬ 9223372036854775807 < 1 + s1.size := by omega
            have d3 : ¬ 9223372036854775807 < 1 + s1.size + 2 := by omega
            have Q1 := HW5.out.far (p := aa.add (a * 2)) (by rw [block_of_add]; exact haab) q1
            have Q2 := HW5.out.far (p := ⟨(aa.add (a * 2)).block, (aa.add (a * 2)).off + 1, none⟩) (by show (aa.add (a * 2)).block < w0.heap.size; rw [block_of_add]; exact haab) q2
            clear e1 e2 hs1 hs2 hm q1 q2 hr6
            go_upto_region 6 with fail
            have HWa := hid (HW5.out.alloc (.cells #[.string s1, .string s2] 95))
            have hAB : Blk (w5.alloc (.cells #[.string s1, .string s2] 95)) w5.heap.size 95 #[.string s1, .string s2] := Blk.new w5 _ _
            obtain ⟨W6, hW6⟩ : ∃ W6, w5.alloc (.cells #[.string s1, .string s2] 95) = W6 := ⟨_, rfl⟩
            rw [hW6] at HWa hAB ⊢
            obtain ⟨at6, hat6⟩ : ∃ x, w5.heap.size = x := ⟨_, rfl⟩
            rw [hat6] at hAB ⊢
            have HAB := hid hAB
            clear Q1 Q2 hW6 hat6 hAB
            go_region_held3 (fun w' => w'.cell? ⟨at6, 0, none⟩ = some (.string s1) ∧ w'.cell? ⟨at6, 1, none⟩ = some (.string s2))
              (first
                | exact ⟨(HAB.out.cell 0).trans rfl, (HAB.out.cell 1).trans rfl⟩
                | exact ⟨(HA7.out.cell 0).trans rfl, (HA7.out.cell 1).trans rfl⟩
                | exact ⟨(HA6.out.cell 0).trans rfl, (HA6.out.cell 1).trans rfl⟩)
              (first
                | (go_at_call 34; refine (HEs.out s2 _ (by omega) HWa.out.drew.bel).mono ?_; rintro e w6 ⟨x, rfl, hx, hb6⟩; have HW6 := hid (HWa.out.drew.keep hb6); have HA6 := hid (HAB.out.drew.below hb6 HAB.out.drew.lt); have hxz : x.size ≤ 30000000 := (by have := escL_lenB s2.data.toList; rw [len_data] at this; rw [← len_data, hx.out]; omega); have d4 : ¬ 9223372036854775807 < 1 + s1.size + 2 + x.size := (by omega); have d5 : ¬ 9223372036854775807 < 1 + s1.size + 2 + x.size + 1 := (by omega))
                | (go_at_call 65; refine (HWs.out l5 _ _ HW6.out.B ?len).mono ?_; (case len => simp only [ByteArray.size_append]; show l5.length + (1 + s1.size + 2 + x.size + 1) ≤ _; omega); rintro e w7 ⟨rfl, hB7, hx7, ht7⟩; have HW7 := hid (HW6.out.ws hB7 hx7 ht7); have HA7 := hid (HA6.out.wsb HW6.out.B ht7)))
            go_wp2_with fail
            go_roundg (n5 - (a + 1))
            case measure => omega
            case rel => exact ⟨a + 1, by go_num, by omega, rfl, hid (by
              have h := HW7.out
              rw [wrA_snocB t.ats a hal1, ← He1.out, ← He2.out, ← hx.out]
              rw [← Hl5.out] at h
              simpa [data_append] using h)⟩
          · obtain rfl : a = n5 := by omega
            have haa : ¬ (a : Int) < (a : Int) := by omega
            have haad : decide ((a : Int) < (a : Int)) = false := decide_eq_false haa
            have Hl6 : Hid (l ++ 60 :: (tn.data.toList ++ wrA t.ats) = l5) := hid (by rw [← Hl5.out, List.take_of_length_le (by rw [Hn5.out]; exact Nat.le_refl _)])
            have t4 : w5.cell? ⟨pt, 4, none⟩ = some (.bool c) := (HW5.out.T.cell 4).trans rfl
            cases c with
            | true =>
              have HwT : Hid (l ++ wrT t = l5 ++ [47] ++ [62]) := hid (by rw [← Hl6.out, HwT0.out]; simp)
              go_wp2_with (first
                | (go_at_call 66; refine (HWb.out (l5 ++ [bOf 47]) 62 _ hB8 (by omega) (by omega) (by rw [List.length_append, List.length_singleton]; omega)).mono ?_; rintro e w9 ⟨rfl, hB9, hx9⟩)
                | (go_at_call 66; refine (HWb.out l5 47 _ HW5.out.B (by omega) (by omega) (by omega)).mono ?_; rintro e w8 ⟨rfl, hB8, hx8⟩))
              go_end0
              have hx := (hx8.below HW5.out.B.bnd).trans (hx9.below HW5.out.B.bnd)
              exact ⟨rfl, by rw [HwT.out]; exact hB9, HW5.out.fr.trans hx, HW5.out.bel.trans (hx.mono HW5.out.lo)⟩
            | false =>
              have HwT : Hid (l ++ wrT t = l5 ++ [62]) := hid (by rw [← Hl6.out, HwT0.out]; simp)
              go_wp2_with (go_at_call 66; refine (HWb.out l5 62 _ HW5.out.B (by omega) (by omega) (by omega)).mono ?_; rintro e w9 ⟨rfl, hB9, hx9⟩)
              go_end0
              have hx := hx9.below HW5.out.B.bnd
              exact ⟨rfl, by rw [HwT.out]; exact hB9, HW5.out.fr.trans hx, HW5.out.bel.trans (hx.mono HW5.out.lo)⟩
end Go.Proofs.YtihgmgpcdodknaaDoor
