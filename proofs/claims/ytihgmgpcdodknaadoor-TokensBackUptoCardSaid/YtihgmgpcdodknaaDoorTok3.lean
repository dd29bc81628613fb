import Derived.Test.YtihgmgpcdodknaaDoorTokM
import Derived.Test.YtihgmgpcdodknaaDoorRefsY
import Derived.Test.YtihgmgpcdodknaaDoorFunc
import Derived.Deep.QuietTactic
import Derived.BigQuiet
import Derived.Deep.RegionHeld3
import Derived.Deep.RegionLaw
import Derived.Deep.AppendLies
import Derived.Deep.LoopGhost
set_option linter.unusedVariables false
/- The reader's methods: next, tell, told, bare, quoted. -/
namespace Go.Proofs.YtihgmgpcdodknaaDoor
open Go.RowKit

theorem byteOf (s : ByteArray) (k : Nat) (h : k < s.size) : ∃ n : Int, ((s[k]'h).toNat : Int) = n ∧ 0 ≤ n ∧ n ≤ 255 ∧ bOf n = s[k]'h :=
  ⟨_, rfl, by omega, by have := (s[k]'h).toNat_lt; omega, bOf_cast _⟩
theorem Fr.wk {R : Nat} {w w' : World} (a : Option Nat) (h : Fr R none none w w') : Fr R a a w w' := ⟨h.os, h.tape, h.output, h.size, fun k hk hR _ => h.block k hk hR (by simp), .inl rfl⟩
theorem dropAt (s : ByteArray) (k : Nat) (h : k < s.size) : s.data.toList.drop k = s[k] :: s.data.toList.drop (k + 1) := by
  have hk : k < s.data.toList.length := by rw [len_data]; exact h
  rw [List.drop_eq_getElem_cons hk, data_get s k h]
theorem below_dN (B : Nat) (w : World) (n : Nat) : Below B w (w.drewN n) := ⟨rfl, rfl, rfl, Nat.le_refl _, fun _ _ => rfl⟩
theorem rd_drewN {w : World} {base R : Nat} {s : ByteArray} {k : Nat} {V : Value} {L : List Tk} (h : Rd w base R s k V L) (n : Nat) : Rd (w.drewN n) base R s k V L := h.keep (below_dN _ w n)

theorem Rd.atI {w : World} {base R : Nat} {s : ByteArray} {k : Nat} {V : Value} {L : List Tk} (h : Rd w base R s k V L) {i : Int} (k' : Nat) (hi : i = (k' : Int)) : Rd (w.setCell ⟨R, 1, none⟩ (.int .i64 i)) base R s k' V L := by
  subst hi; exact h.at_ k'

set_option maxHeartbeats 800000 in
theorem next_some (base R : Nat) (s : ByteArray) (k : Nat) (V : Value) (L : List Tk) (w : World) (hs : s.size ≤ 65536) (hlt : k < s.size) (h : Rd w base R s k V L) :
    Calls Tryd.prog 115 #[.pointer (some ⟨R, 0, none⟩)] w fun e w' => e = .returned (.tuple #[.int .u8 ((s[k]'hlt).toNat : Int), .bool true]) ∧ Rd w' base R s (k + 1) V L ∧ Fr R none none w w' := by
  have H := hid h
  have c0 := h.c0
  have c1 := h.c1
  have f1 := h.fz 1
  clear h
  obtain ⟨c, hc⟩ : ∃ c, s[k] = c := ⟨_, rfl⟩
  have hk0 : (0 : Int) ≤ (k : Int) := by omega
  have hk1 : (k : Int) < (s.size : Int) := by omega
  have hk2 : decide ((s.size : Int) ≤ (k : Int)) = false := decide_eq_false (by omega)
  have hk3 : decide (s.size ≤ k) = false := decide_eq_false (by omega)
  rw [hc]
  go_enter Tryd.func115, Tryd.ntmps115
  go_wp2_with (go_quiet (fail))
  go_ret2
  exact ⟨rfl, rd_drewN ((rd_drewN H.out _).atI (k + 1) (by omega)) _, (((Fr.refl _ _ _).drewN _).trans (Fr.setR 1 _)).drewN _⟩
set_option maxHeartbeats 800000 in
theorem next_none (base R : Nat) (s : ByteArray) (V : Value) (L : List Tk) (w : World) (hs : s.size ≤ 65536) (h : Rd w base R s s.size V L) :
    Calls Tryd.prog 115 #[.pointer (some ⟨R, 0, none⟩)] w fun e w' => e = .returned (.tuple #[.int .u8 0, .bool false]) ∧ Rd w' base R s s.size V L ∧ Fr R none none w w' := by
  have H := hid h
  have c0 := h.c0
  have c1 := h.c1
  clear h
  go_enter Tryd.func115, Tryd.ntmps115
  go_wp2_with (go_quiet (fail))
  go_ret2
  exact ⟨rfl, rd_drewN H.out _, (Fr.refl _ _ _).drewN _⟩

theorem info_tk : (Tryd.prog.info? 53).map (fun i => (i.zero, i.size, i.bytes)) = some (some (.agg #[.int .i64 0, .string ⟨#[]⟩, .string ⟨#[]⟩, .slice none 0 0, .bool false]), 5, 72) := by kernel_rfl
theorem info_at : (Tryd.prog.info? 95).map (fun i => (i.zero, i.size, i.bytes)) = some (some (.agg #[.string ⟨#[]⟩, .string ⟨#[]⟩]), 2, 32) := by kernel_rfl

theorem alloc_below (W : World) (o : Obj) : Below W.heap.size W (W.alloc o) := (Below.refl _ _).alloc (Nat.le_refl _) o
set_option maxRecDepth 100000 in
set_option maxHeartbeats 1600000 in
theorem tell_any (base R : Nat) (s : ByteArray) (k : Nat) (V : Value) (L : List Tk) (t : Tk) (va : Value) (w : World) (hL : L.length ≤ 4096) (h : Rd w base R s k V L) (ha : OwnA w base va t.ats) :
    Calls Tryd.prog 80 #[.pointer (some ⟨R, 0, none⟩), .agg #[.int .i64 t.k, .string (bs t.n), .string (bs t.x), va, .bool t.c]] w (RT base R s V w k (tellS t L)) := by
  obtain ⟨n, hn⟩ : ∃ n, L.length = n := ⟨_, rfl⟩
  have Hn := hid hn
  obtain ⟨A, vc, rfl⟩ := h.shape hn
  obtain ⟨cs, hcs, hown⟩ := h.2.2
  rw [hn] at hL hown
  clear hn
  obtain ⟨⟨tk, tn, tx, tas, tc⟩, ht⟩ : ∃ u, t = u := ⟨_, rfl⟩
  subst ht
  simp only at ha ⊢
  obtain ⟨bn, hbn⟩ : ∃ bn, bs tn = bn := ⟨_, rfl⟩
  obtain ⟨bx, hbx⟩ : ∃ bx, bs tx = bx := ⟨_, rfl⟩
  rw [hbn, hbx]
  have Hbn := hid hbn
  have Hbx := hid hbx
  clear hbn hbx
  obtain ⟨Aa, na, ca, rfl⟩ : ∃ Aa na ca, va = .slice Aa na ca := by
    rcases ha.2 with ⟨rfl, _⟩ | ⟨g, cap, cur, rfl, _⟩
    · exact ⟨none, 0, 0, rfl⟩
    · exact ⟨_, _, _, rfl⟩
  have hal : Below w.heap.size w (w.alloc (.cells #[.int .i64 tk, .string bn, .string bx, .slice Aa na ca, .bool tc] 53)) := (Below.refl _ _).alloc (Nat.le_refl _) _
  have h1 := h.keep hal
  have c2 := h1.c2
  have f2 := h1.fz 2
  have hT := Blk.new w 53 #[.int .i64 tk, .string bn, .string bx, .slice Aa na ca, .bool tc]
  by_cases hfull : n = 4096
  · have HS : Hid (tellS ⟨tk, tn, tx, tas, tc⟩ L = none) := hid (by unfold tellS; rw [if_pos (Hn.out.trans hfull)])
    rw [HS.out]
    subst hfull
    go_enter Tryd.func80, Tryd.ntmps80
    go_wp2
    exact ⟨rfl, rfl, _, Fr.of_below hal⟩
  · have HS : Hid (tellS ⟨tk, tn, tx, tas, tc⟩ L = some (L ++ [⟨tk, tn, tx, tas, tc⟩])) := hid (by unfold tellS; rw [if_neg (fun e => hfull (Hn.out.symm.trans e))])
    rw [HS.out]
    have hfb : (n == 4096) = false := beq_eq_false_iff_ne.2 hfull
    have hfi : ((n : Int) == 4096) = false := beq_eq_false_iff_ne.2 (by omega)
    have hfj : ¬ (n : Int) = 4096 := by omega
    go_enter Tryd.func80, Tryd.ntmps80
    go_wp2_with fail
    obtain ⟨w1, hw1⟩ : ∃ w1, w.alloc (.cells #[.int .i64 tk, .string bn, .string bx, .slice Aa na ca, .bool tc] 53) = w1 := ⟨_, rfl⟩
    obtain ⟨T, hTT⟩ : ∃ T, w.heap.size = T := ⟨_, rfl⟩
    have hown1 := hown.alloc (.cells #[.int .i64 tk, .string bn, .string bx, .slice Aa na ca, .bool tc] 53)
    have ha1 := World.ownsRow.alloc ha (.cells #[.int .i64 tk, .string bn, .string bx, .slice Aa na ca, .bool tc] 53)
    have hlt1 : w1.heap.size = T + 1 := by rw [← hw1, ← hTT]; simp
    rw [hw1] at hal h1 c2 f2 hT hown1 ha1 ⊢
    rw [hTT] at hT ⊢
    have HT := hid hTT
    have Hlt1 := hid hlt1
    clear hlt1
    have t0 : w1.cell? ⟨T, 0, none⟩ = some (.int .i64 tk) := (hT.cell 0).trans rfl
    have t1 : w1.cell? ⟨T, 1, none⟩ = some (.string bn) := (hT.cell 1).trans rfl
    have t2 : w1.cell? ⟨T, 2, none⟩ = some (.string bx) := (hT.cell 2).trans rfl
    have t3 : w1.cell? ⟨T, 3, none⟩ = some (.slice Aa na ca) := (hT.cell 3).trans rfl
    have t4 : w1.cell? ⟨T, 4, none⟩ = some (.bool tc) := (hT.cell 4).trans rfl
    have hRlt : R < w1.heap.size := h1.lt
    have hne := h1.ne
    have hbase := h1.1.2
    have c2a : (w1.alloc (.cells #[.int .i64 tk, .string bn, .string bx, .slice Aa na ca, .bool tc] 53)).cell? ⟨R, 2, none⟩ = some (.slice A n vc) := (World.cell?_alloc_lt _ _ _ hRlt).trans c2
    obtain ⟨i0, hi, hz0, hz1, hz2⟩ := info_parts info_tk
    have H1 := hid h1
    have Hb0 := hid h1.1.1
    have HA1 := hid ha1
    have HC := hid hcs
    clear hw1 hTT h hown ha hT h1 hcs
    refine wp_region_noPanic ?_
    go_region_law
      ((refine step_append_lies _ (by rfl) _ _ _ (by rfl) base 53 i0 _ 5 72 Tryd.underlying22 hi hz0 hz1 hz2 rfl (by omega) (.slice A n vc) n cs (by rfl) ((hown1.alloc _).drew)
          ⟨w1.heap.size, 0, none⟩ 1 1 [.int .i64 tk, .string bn, .string bx, .slice Aa na ca, .bool tc] (by rfl) (by rfl) (World.news_of_block (cs := #[.int .i64 tk, .string bn, .string bx, .slice Aa na ca, .bool tc]) (t := 53) (fr := (0, 0)) (heap_alloc_new w1 _)) (by simp [Value.oneCell'])
          (by omega) (by unfold maxLen; omega) (by omega) (by simp; omega) (w1.heap.size + 1) (by simp) ?_; intro gg cap w3 hown3 hgrow hat hlt3
        have e0 : w3.cell? ⟨R, 2, none⟩ = some (.slice A n vc) := ((hgrow.cell_far _ (by simp; omega) (Ne.symm hne)).trans ((World.cell?_alloc_lt _ _ _ hRlt).trans c2))
        have e1 : w3.frozen? ⟨R, 2, none⟩ = false := (hgrow.frozen_far _ (by simp; omega) (Ne.symm hne)).trans (((alloc_below _ _).frozen (p := ⟨R, 2, none⟩) hRlt).trans f2)))
    all_goals
      refine NoPanic.normal ?_
      have hown3' : w3.ownsRow base 53 5 (.slice (some ⟨gg, 0, none⟩) (n + 1) cap) (n + 1) (cs ++ [.int .i64 tk, .string bn, .string bx, .slice Aa na ca, .bool tc]) := hown3
      have Hg : (w1.alloc (.cells #[.int .i64 tk, .string bn, .string bx, .slice Aa na ca, .bool tc] 53)).drew.grownBy w3 (Value.slice A n vc).ownBlock := hgrow
      have hst := hid (fun (v : Value) (l : List Att) (hv : OwnA w1 base v l) => (own_stay (w' := w3) hv fun g cur hg hc => by
        have hglt : g < w1.heap.size := Blk.lt (t := 95) (cs := cur) hc
        rw [Hg.block g (by simp; omega) (fun e => own_blk_ne hown1 (t := 95) (cs := cur) hc (by decide) e.symm)]
        exact (alloc_below w1 _).block g hglt : OwnA w3 base v l))
      have hR3 : Blk w3 R 64 #[.string s, .int .i64 (k : Int), .slice A n vc] := Blk.grown (Blk.drew (Blk.alloc H1.out.2.1 _)) Hg (fun e => hne e.symm)
      have hOT : OwnT w3 base (.slice (some ⟨gg, 0, none⟩) (n + 1) cap) (L ++ [⟨tk, tn, tx, tas, tc⟩]) := by
        refine ⟨_, TkCells.snoc (t := ⟨tk, tn, tx, tas, tc⟩) (va := .slice Aa na ca) (hst.out _ _ HA1.out) L cs (TkCells.map (fun v l hv => hst.out v l (World.ownsRow.kept (row := none) hv ⟨hal.os, hal.tape, hal.output, hal.size, fun k hk _ => hal.block k hk⟩ (by cases h0 : v.ownBlock <;> simp))) L cs HC.out), ?_⟩
        rw [List.length_append, Hn.out, Hbn.out, Hbx.out]
        exact hown3'
      have hfr : Fr R (Value.slice A n vc).ownBlock (Value.slice (some ⟨gg, 0, none⟩) (n + 1) cap).ownBlock w1 w3 := by
        refine (Fr.of_below (alloc_below w1 (.cells #[.int .i64 tk, .string bn, .string bx, .slice Aa na ca, .bool tc] 53))).trans ⟨Hg.os, Hg.tape, Hg.output, Hg.size, fun k hk _ hne => Hg.block k hk hne, ?_⟩
        rcases hat with h | h
        · exact .inl h.symm
        · exact .inr ⟨gg, rfl, by rw [h]; simp⟩
      have hsz3 : base ≤ w3.heap.size := by have := Hg.size; simp at this; omega
      have hRd := hid (Rd.put ⟨Hb0.out, hsz3⟩ hR3 hOT)
      have hF := hid (((Fr.of_below hal : Fr R _ _ _ _).trans hfr).trans (Fr.setR 2 (.slice (some ⟨gg, 0, none⟩) (n + 1) cap)))
      clear hown3 hown3' hgrow hat Hg hst hR3 hOT hfr e0 e1 hi hz0 hz1 hz2 hown1 t0 t1 t2 t3 t4 c2 c2a f2 hal hfb hfi hfj
      go_wp2
      go_end0
      exact ⟨rfl, _, hRd.out, hF.out⟩

theorem RT.after {base R : Nat} {s : ByteArray} {V : Value} {w w1 : World} {k : Nat} {o : Option (List Tk)} {e : Ending} {w' : World} (hb : Below w.heap.size w w1) (h : RT base R s V w1 k o e w') : RT base R s V w k o e w' := by
  cases o with
  | none =>
    obtain ⟨h1, row, h2⟩ := h
    exact ⟨h1, row, (Fr.of_below hb).trans h2⟩
  | some L' =>
    obtain ⟨h1, V', h2, h3⟩ := h
    exact ⟨h1, V', h2, (Fr.of_below hb).trans h3⟩
theorem empty_of {y : ByteArray} (h : y.size = 0) : y = ⟨#[]⟩ := by
  have : y.data = #[] := Array.eq_empty_of_size_eq_zero h
  cases y; simp_all
theorem decL_len (s : List UInt8) : (decL s).length ≤ s.length := by
  unfold decL
  have key : ∀ (n : Nat) (s : List UInt8), (decodeR n s).length ≤ s.length := by
    intro n
    induction n with
    | zero => intro s; simp [decodeR]
    | succ n ih =>
      intro s
      cases s with
      | nil => simp [decodeR]
      | cons c t =>
        simp only [decodeR]
        split
        · have h1 := one_len (c :: t)
          have h2 := ih ((c :: t).drop (oneR (c :: t)).2)
          rw [List.length_append]
          rw [List.length_drop] at h2
          omega
        · have := ih t
          simp only [List.length_cons]; omega
  exact key _ s
set_option maxHeartbeats 800000 in
theorem told_key (base R : Nat) (s : ByteArray) (k : Nat) (V : Value) (L : List Tk) (y : ByteArray) (w : World) (hL : L.length ≤ 4096) (h : Rd w base R s k V L) (hy : y.size ≠ 0) :
    Calls Tryd.prog 80 #[.pointer (some ⟨R, 0, none⟩), .agg #[.int .i64 3, .string ⟨#[]⟩, .string y, .slice none 0 0, .bool false]] w (RT base R s V w k (tellS ⟨3, [], y.data.toList, [], false⟩ L)) :=
  tell_any base R s k V L ⟨3, [], y.data.toList, [], false⟩ (.slice none 0 0) w hL h (OwnA.nil _ _)
set_option maxHeartbeats 1600000 in
theorem told_any (base R : Nat) (s : ByteArray) (k : Nat) (V : Value) (L : List Tk) (x : ByteArray) (d : Bool) (w : World) (hx : x.size ≤ 65536) (hL : L.length ≤ 4096) (h : Rd w base R s k V L) :
    Calls Tryd.prog 52 #[.pointer (some ⟨R, 0, none⟩), .string x, .bool d] w (RT base R s V w k (toldS x.data.toList d L)) := by
  have H := hid h
  have HL := hid hL
  clear h hL
  cases d with
  | true =>
    have Hd := hid (fun W => decode06_any x W (by omega))
    obtain ⟨o, ho⟩ : ∃ o, toldS x.data.toList true L = o := ⟨_, rfl⟩
    rw [ho]
    have Ho := hid ho
    clear ho
    go_enter Tryd.func52, Tryd.ntmps52
    go_wp2_with fail
    refine (Hd.out _).mono ?_
    rintro e w1 ⟨y, rfl, hy, hb1⟩
    have H1 := hid (H.out.keep hb1)
    have HT : Hid (toldS x.data.toList true L = if y.data.toList = [] then some L else tellS ⟨3, [], y.data.toList, [], false⟩ L) := hid (by rw [hy.out]; rfl)
    by_cases h0 : y.size = 0
    · obtain rfl := empty_of h0
      obtain rfl : o = some L := by rw [← Ho.out, HT.out, if_pos rfl]
      go_wp2
      go_end0
      exact ⟨rfl, V, H1.out, Fr.of_below hb1⟩
    · have hne : ¬ y.data.toList = [] := fun e => h0 (by rw [← len_data, e]; rfl)
      have hemp : y.toList.isEmpty = false := by
        rw [ByteArray.toList_eq]
        cases e : y.data.toList with
        | nil => exact absurd e hne
        | cons _ _ => rfl
      have HK := hid (told_key base R s k V L y w1 HL.out H1.out h0)
      have ho : tellS ⟨3, [], y.data.toList, [], false⟩ L = o := by rw [← Ho.out, HT.out, if_neg hne]
      rw [ho] at HK
      clear ho hne
      go_wp2_with fail
      refine HK.out.mono ?_
      intro e w2 hRT
      have hRT' := RT.after hb1 hRT
      cases o with
      | none =>
        obtain ⟨rfl, hrow⟩ := hRT'
        go_wp2
        exact ⟨rfl, rfl, hrow⟩
      | some L' =>
        obtain ⟨rfl, V', h2, h3⟩ := hRT'
        go_wp2
        go_end0
        exact ⟨rfl, V', h2, h3⟩
  | false =>
    have HT : Hid (toldS x.data.toList false L = if x.data.toList = [] then some L else tellS ⟨3, [], x.data.toList, [], false⟩ L) := hid rfl
    rw [HT.out]
    by_cases h0 : x.size = 0
    · obtain rfl := empty_of h0
      rw [if_pos rfl]
      go_enter Tryd.func52, Tryd.ntmps52
      go_wp2
      go_end0
      exact ⟨rfl, V, H.out, Fr.refl _ _ _⟩
    · have hne : ¬ x.data.toList = [] := fun e => h0 (by rw [← len_data, e]; rfl)
      have hemp : x.toList.isEmpty = false := by
        rw [ByteArray.toList_eq]
        cases e : x.data.toList with
        | nil => exact absurd e hne
        | cons _ _ => rfl
      rw [if_neg hne]
      have HK := hid (told_key base R s k V L x w HL.out H.out h0)
      clear hne
      obtain ⟨o, ho⟩ : ∃ o, tellS ⟨3, [], x.data.toList, [], false⟩ L = o := ⟨_, rfl⟩
      rw [ho] at HK ⊢
      clear ho
      go_enter Tryd.func52, Tryd.ntmps52
      go_wp2_with fail
      refine HK.out.mono ?_
      intro e w2 hRT
      cases o with
      | none =>
        obtain ⟨rfl, hrow⟩ := hRT
        go_wp2
        exact ⟨rfl, rfl, hrow⟩
      | some L' =>
        obtain ⟨rfl, V', h2, h3⟩ := hRT
        go_wp2
        go_end0
        exact ⟨rfl, V', h2, h3⟩

end Go.Proofs.YtihgmgpcdodknaaDoor
/- The reader's methods: bare, quoted. -/
namespace Go.Proofs.YtihgmgpcdodknaaDoor
open Go.RowKit

theorem below_aft {B : Nat} {w0 W w' : World} (h1 : Below B w0 W) (hlt : B < W.heap.size) (h2 : Below W.heap.size W w') : Below B w0 w' := h1.trans (h2.mono (Nat.le_of_lt hlt))
theorem cell_aft {B j : Nat} {W w' : World} {v : Value} (h2 : Below W.heap.size W w') (hlt : B < W.heap.size) (hc : W.cell? ⟨B, j, none⟩ = some v) : w'.cell? ⟨B, j, none⟩ = some v := (h2.cell (p := ⟨B, j, none⟩) hlt).trans hc
theorem size_aft {B : Nat} {W w' : World} (h2 : Below W.heap.size W w') (hlt : B < W.heap.size) : B < w'.heap.size := Nat.lt_of_lt_of_le hlt h2.size
theorem tw_end (p : UInt8 → Bool) (l : List UInt8) (m : Nat) (h1 : (l.take m).all p = true) (h2 : ∀ c r, l.drop m = c :: r → p c = false) : l.takeWhile p = l.take m ∧ l.dropWhile p = l.drop m := by
  have key : ∀ (a b : List UInt8), a.all p = true → (∀ c r, b = c :: r → p c = false) → (a ++ b).takeWhile p = a ∧ (a ++ b).dropWhile p = b := by
    intro a
    induction a with
    | nil =>
      intro b _ hb
      cases b with
      | nil => simp
      | cons c r => have := hb c r rfl; simp [this]
    | cons c a ih =>
      intro b ha hb
      rw [List.all_cons, Bool.and_eq_true] at ha
      have := ih b ha.2 hb
      simp [ha.1, this.1, this.2]
  have := key (l.take m) (l.drop m) h1 h2
  rwa [List.take_append_drop] at this

set_option maxRecDepth 100000 in
set_option maxHeartbeats 1600000 in
theorem bare_any (base R : Nat) (s : ByteArray) (k : Nat) (V : Value) (L : List Tk) (w : World) (hs : s.size ≤ 65536) (hk : k ≤ s.size) (h : Rd w base R s k V L) :
    Calls Tryd.prog 116 #[.pointer (some ⟨R, 0, none⟩)] w fun e w' => ∃ (y : ByteArray) (m : Nat), e = .returned (.tuple #[.string y, .bool (decide (m < s.size))]) ∧ k ≤ m ∧ m ≤ s.size ∧ Hid (s.data.toList.drop m = (s.data.toList.drop k).dropWhile bareC) ∧ Hid (y.data.toList = decL ((s.data.toList.drop k).takeWhile bareC)) ∧ Rd w' base R s m V L ∧ Fr R none none w w' := by
  have H := hid h
  have c0 := h.c0
  have c1 := h.c1
  clear h
  have HR := hid (fun n => rd_drewN H.out n)
  go_enter Tryd.func116, Tryd.ntmps116
  go_wp2
  clear c0 c1
  go_loopg [] (s.size - k) (fun g wr => ∃ m : Nat, k ≤ m ∧ m ≤ s.size ∧ g = s.size - m ∧ Hid (((s.data.toList.drop k).take (m - k)).all bareC = true) ∧ Hid (Rd wr base R s m V L) ∧ Hid (Fr R none none w wr))
  case atStart => exact ⟨k, Nat.le_refl _, hk, rfl, hid (by simp), H, hid (Fr.refl _ _ _)⟩
  case round =>
    obtain ⟨m, hkm, hms, rfl, hall, hRd, hF⟩ := hrel
    have c0 := hRd.out.c0
    have c1 := hRd.out.c1
    have f1 := hRd.out.fz 1
    by_cases hlt : m < s.size
    · obtain ⟨n, hn, hn0, hn1, hbn⟩ := byteOf s m hlt
      have Hbl := hid (fun W => (blank_any n hn0 hn1 W).mono fun e w' h => (⟨h.1, h.2.symm⟩ : e = _ ∧ w' = W))
      have hmi0 : (0 : Int) ≤ (m : Int) := by omega
      have hmi1 : (m : Int) < (s.size : Int) := by omega
      have hmi2 : decide ((m : Int) < (s.size : Int)) = true := decide_eq_true hmi1
      have hmi3 : decide (m < s.size) = true := decide_eq_true hlt
      by_cases hgo : isBlank (bOf n) = false ∧ n ≠ 62
      · obtain ⟨hb0, hn62⟩ := hgo
        have hnb : (n == 62) = false := beq_eq_false_iff_ne.2 hn62
        have hnm : ¬ n = 62 := hn62
        rw [hb0] at Hbl
        go_wp2_with (go_quiet ((go_at_call 101; exact Calls.quiet_of_same (Hbl.out _))))
        go_roundg (s.size - (m + 1))
        case measure => omega
        case rel =>
          refine ⟨m + 1, by omega, by omega, rfl, hid ?_, hid ((rd_drewN hRd.out _).atI (m + 1) (by omega)), hid (hF.out.trans (((Fr.refl _ _ _).drewN _).trans (Fr.setR 1 _)))⟩
          have e1 : m + 1 - k = (m - k) + 1 := by omega
          have hlen : m - k < (s.data.toList.drop k).length := by rw [List.length_drop, len_data]; omega
          rw [e1, List.take_succ_eq_append_getElem hlen, List.all_append, hall.out]
          have e2 : (s.data.toList.drop k)[m - k] = s[m] := by
            rw [List.getElem_drop]
            have e3 : k + (m - k) = m := by omega
            simp only [e3]
            exact data_get s m hlt _
          rw [e2, ← hbn]
          have : (bOf n != 62) = true := by
            rw [bne_iff_ne]
            intro e
            have := congrArg UInt8.toNat e
            have h2 := congrArg UInt8.toNat hbn
            rw [this] at h2
            apply hn62
            rw [← hn, ← h2]; rfl
          simp [bareC, hb0, this]
      · have Hend := hid (tw_end bareC (s.data.toList.drop k) (m - k) hall.out (fun c r hcr => by
          have e0 : (s.data.toList.drop k).drop (m - k) = s.data.toList.drop m := by rw [List.drop_drop]; congr 1; omega
          rw [e0, dropAt s m hlt, ← hbn] at hcr
          injection hcr with h1 h2
          subst h1
          unfold bareC
          by_cases hb : isBlank (bOf n) = true
          · rw [hb]; rfl
          · have hb' : isBlank (bOf n) = false := by simpa using hb
            have : n = 62 := Decidable.byContradiction fun h => hgo ⟨hb', h⟩
            subst this; rfl))
        have Hdec := hid (fun W => decode06_any (s.extract k m) W (by rw [ByteArray.size_extract]; omega))
        have hRlt := hRd.out.lt
        have hk0 : (0 : Int) ≤ (k : Int) := by omega
        have hkmi : (k : Int) ≤ (m : Int) := by omega
        have hmsi : (m : Int) ≤ (s.size : Int) := by omega
        by_cases hb : isBlank (bOf n) = true
        · rw [hb] at Hbl
          go_wp2_with (go_quiet ((go_at_call 101; exact Calls.quiet_of_same (Hbl.out _))))
          go_region_held3 (fun w' => w'.cell? ⟨R, 0, none⟩ = some (.string s) ∧ w'.cell? ⟨R, 1, none⟩ = some (.int .i64 (m : Int)) ∧ Below wr.heap.size wr w' ∧ R < w'.heap.size)
            (first
              | exact ⟨c0, c1, (below_dN _ _ _).drew, hRlt⟩
              | exact ⟨c0, c1, (Below.refl _ _).drew, hRlt⟩
              | (go_split_ands
                 exact ⟨cell_aft hbk (by assumption) (by assumption), cell_aft hbk (by assumption) (by assumption), (by assumption : Below wr.heap.size wr _).trans (hbk.mono (by assumption : Below wr.heap.size wr _).size), size_aft hbk (by assumption)⟩)
              | go_keep)
            (first
    | (go_at_call 35; refine (Hdec.out _).mono ?_; rintro e' w' ⟨y, rfl, hy, hbk⟩))
          all_goals
            go_split_ands
            have HB := hid (by assumption : Below wr.heap.size wr _)
            go_wp2
            go_ret2
            refine ⟨y, m, ?_, hkm, hms, hid ?_, hid ?_, hRd.out.keep HB.out, hF.out.trans (Fr.of_below HB.out)⟩
            · simp [*]
            · rw [Hend.out.2, List.drop_drop]; congr 1; omega
            · rw [hy.out, data_extract, Hend.out.1, List.drop_take]
        · have hb' : isBlank (bOf n) = false := by simpa using hb
          obtain rfl : n = 62 := Decidable.byContradiction fun h => hgo ⟨hb', h⟩
          rw [hb'] at Hbl
          go_wp2_with (go_quiet ((go_at_call 101; exact Calls.quiet_of_same (Hbl.out _))))
          go_region_held3 (fun w' => w'.cell? ⟨R, 0, none⟩ = some (.string s) ∧ w'.cell? ⟨R, 1, none⟩ = some (.int .i64 (m : Int)) ∧ Below wr.heap.size wr w' ∧ R < w'.heap.size)
            (first
              | exact ⟨c0, c1, (below_dN _ _ _).drew, hRlt⟩
              | exact ⟨c0, c1, (Below.refl _ _).drew, hRlt⟩
              | (go_split_ands
                 exact ⟨cell_aft hbk (by assumption) (by assumption), cell_aft hbk (by assumption) (by assumption), (by assumption : Below wr.heap.size wr _).trans (hbk.mono (by assumption : Below wr.heap.size wr _).size), size_aft hbk (by assumption)⟩)
              | go_keep)
            (first
    | (go_at_call 35; refine (Hdec.out _).mono ?_; rintro e' w' ⟨y, rfl, hy, hbk⟩))
          all_goals
            go_split_ands
            have HB := hid (by assumption : Below wr.heap.size wr _)
            go_wp2
            go_ret2
            refine ⟨y, m, ?_, hkm, hms, hid ?_, hid ?_, hRd.out.keep HB.out, hF.out.trans (Fr.of_below HB.out)⟩
            · simp [*]
            · rw [Hend.out.2, List.drop_drop]; congr 1; omega
            · rw [hy.out, data_extract, Hend.out.1, List.drop_take]
    · obtain rfl : m = s.size := by omega
      have Hend := hid (tw_end bareC (s.data.toList.drop k) (s.size - k) hall.out (fun c r hcr => by
        rw [List.drop_drop, List.drop_of_length_le (by rw [len_data]; omega)] at hcr
        cases hcr))
      have Hdec := hid (fun W => decode06_any (s.extract k s.size) W (by rw [ByteArray.size_extract]; omega))
      have hRlt := hRd.out.lt
      have hk0 : (0 : Int) ≤ (k : Int) := by omega
      have hkmi : (k : Int) ≤ (s.size : Int) := by omega
      go_wp2_with (go_quiet (fail))
      go_region_held3 (fun w' => w'.cell? ⟨R, 0, none⟩ = some (.string s) ∧ w'.cell? ⟨R, 1, none⟩ = some (.int .i64 (s.size : Int)) ∧ Below wr.heap.size wr w' ∧ R < w'.heap.size)
        (first
          | exact ⟨c0, c1, (below_dN _ _ _).drew, hRlt⟩
          | exact ⟨c0, c1, (Below.refl _ _).drew, hRlt⟩
          | (go_split_ands
             exact ⟨cell_aft hbk (by assumption) (by assumption), cell_aft hbk (by assumption) (by assumption), (by assumption : Below wr.heap.size wr _).trans (hbk.mono (by assumption : Below wr.heap.size wr _).size), size_aft hbk (by assumption)⟩)
          | go_keep)
        (first
    | (go_at_call 35; refine (Hdec.out _).mono ?_; rintro e' w' ⟨y, rfl, hy, hbk⟩))
      all_goals
        go_split_ands
        have HB := hid (by assumption : Below wr.heap.size wr _)
        go_wp2
        go_ret2
        refine ⟨y, s.size, ?_, hkm, hms, hid ?_, hid ?_, hRd.out.keep HB.out, hF.out.trans (Fr.of_below HB.out)⟩
        · simp [*]
        · rw [Hend.out.2, List.drop_drop]; congr 1; omega
        · rw [hy.out, data_extract, Hend.out.1, List.drop_take]
end Go.Proofs.YtihgmgpcdodknaaDoor
/- The reader's quoted. -/
namespace Go.Proofs.YtihgmgpcdodknaaDoor
open Go.RowKit

theorem idx_lt (l : List UInt8) (c : UInt8) (i : Nat) (h : Lib.indexByte l c = (i : Int)) : i < l.length := by
  have := (Lib.indexByte_some h).1
  obtain ⟨h1, _⟩ := List.getElem?_eq_some_iff.1 this
  exact h1
theorem byteN (n : Int) : n.toNat.toUInt8 = bOf n := rfl

set_option maxRecDepth 100000 in
set_option maxHeartbeats 1600000 in
theorem quoted_no (base R : Nat) (s : ByteArray) (k : Nat) (V : Value) (L : List Tk) (n : Int) (w : World) (hs : s.size ≤ 65536) (hk : k ≤ s.size) (hi : Lib.indexByte (s.data.toList.drop k) (bOf n) < 0) (h : Rd w base R s k V L) :
    Calls Tryd.prog 117 #[.pointer (some ⟨R, 0, none⟩), .int .u8 n] w fun e w' => e = .returned (.tuple #[.string ⟨#[]⟩, .bool false]) ∧ Rd w' base R s k V L ∧ Fr R none none w w' := by
  have H := hid h
  have c0 := h.c0
  have c1 := h.c1
  have hk0 : (0 : Int) ≤ (k : Int) := by omega
  have hk1 : (k : Int) ≤ (s.size : Int) := by omega
  have Hix := hid (fun W => Tryd.strings_IndexByte (s.extract k s.size) n W)
  obtain ⟨i, hii⟩ : ∃ i, Lib.indexByte (s.data.toList.drop k) (bOf n) = i := ⟨_, rfl⟩
  have he : Lib.indexByte (s.extract k s.size).data.toList n.toNat.toUInt8 = i := by rw [data_extract, take_all]; exact hii
  rw [he] at Hix
  rw [hii] at hi
  clear h hii he
  go_enter Tryd.func117, Tryd.ntmps117
  go_wp2_with (go_quiet ((go_at_call 67; exact Calls.quiet_of_same (Hix.out _))))
  go_ret2
  exact ⟨rfl, rd_drewN H.out _, (Fr.refl _ _ _).drewN _⟩
set_option maxRecDepth 100000 in
set_option maxHeartbeats 1600000 in
theorem quoted_yes (base R : Nat) (s : ByteArray) (k : Nat) (V : Value) (L : List Tk) (n : Int) (i : Nat) (w : World) (hs : s.size ≤ 65536) (hk : k ≤ s.size) (hi : Lib.indexByte (s.data.toList.drop k) (bOf n) = (i : Int)) (h : Rd w base R s k V L) :
    Calls Tryd.prog 117 #[.pointer (some ⟨R, 0, none⟩), .int .u8 n] w fun e w' => ∃ y, e = .returned (.tuple #[.string y, .bool true]) ∧ Hid (y.data.toList = decL ((s.data.toList.drop k).take i)) ∧ Rd w' base R s (k + i + 1) V L ∧ Fr R none none w w' := by
  have H := hid h
  have c0 := h.c0
  have c1 := h.c1
  have f1 := h.fz 1
  have hlt := idx_lt _ _ _ hi
  rw [List.length_drop, len_data] at hlt
  have hk0 : (0 : Int) ≤ (k : Int) := by omega
  have hk1 : (k : Int) ≤ (s.size : Int) := by omega
  have hk2 : (0 : Int) ≤ (i : Int) := by omega
  have hk3 : (k : Int) + (i : Int) ≤ (s.size : Int) := by omega
  have hk4 : (k : Int) ≤ (k : Int) + (i : Int) := by omega
  have Hix := hid (fun W => Tryd.strings_IndexByte (s.extract k s.size) n W)
  have he : Lib.indexByte (s.extract k s.size).data.toList n.toNat.toUInt8 = (i : Int) := by rw [data_extract, take_all]; exact hi
  rw [he] at Hix
  have Hdec := hid (fun W => decode06_any (s.extract k (k + i)) W (by rw [ByteArray.size_extract]; omega))
  clear h he
  go_enter Tryd.func117, Tryd.ntmps117
  go_wp2_with (go_quiet ((go_at_call 67; exact Calls.quiet_of_same (Hix.out _))))
  refine (Hdec.out _).mono ?_
  rintro e w1 ⟨y, rfl, hy, hb⟩
  go_wp2
  go_ret2
  refine ⟨y, rfl, hid ?_, ((rd_drewN H.out _).atI (k + i + 1) (by omega)).keep hb, (((Fr.refl _ _ _).drewN _).trans (Fr.setR 1 _)).trans (Fr.of_below hb)⟩
  rw [hy.out, data_extract, List.drop_take]
  congr 2; omega
end Go.Proofs.YtihgmgpcdodknaaDoor
