import Derived.Deep.Cut
import Derived.Test.YtkcnmjdomipbjaaGreatS17
import Derived.Test.YtkcnmjdomipbjaaGreatS19
set_option linter.unusedVariables false
set_option maxHeartbeats 100000000
set_option maxRecDepth 100000
namespace Go.Proofs.YtkcnmjdomipbjaaGreat
open Go.RowKit
theorem alloc_below (W : World) (o : Obj) : Below W.heap.size W (W.alloc o) := (Below.refl _ _).alloc (Nat.le_refl _) o
def AI (w : World) (e : Ending) (w' : World) : Prop := ∃ r : Int, e = .returned (.int .i64 r) /\ Below w.heap.size w w'
def AB (w : World) (e : Ending) (w' : World) : Prop := ∃ b : Bool, e = .returned (.bool b) /\ Below w.heap.size w w'
theorem filter_any (s : ByteArray) (w : World) (hs : s.size <= 4294967296) : Calls Tryz.prog 108 #[.string s] w (PS (12 * s.size + 9) w) := by
 have HS := hid (fun W => scheme_any s W (by omega))
 have HA := hid (fun t W => refAllowed_any t W)
 have HP := hid (fun W => percent_any s true W hs)
 have h9 : 9 <= 12 * s.size + 9 := by omega
 have h12 : 12 * s.size <= 12 * s.size + 9 := by omega
 obtain ⟨x, y⟩ : List UInt8 × Bool := ([], true)
 go_enter Tryz.func108, Tryz.ntmps108
 go_wp2_with (first
  | (go_at_call 125; refine (HS.out _).mono ?_; rintro e w1 ⟨t, b, rfl, _, _, hb1⟩)
  | (go_at_call 126; refine (HA.out _ _).mono ?_; rintro e w2 ⟨rfl, rfl⟩)
  | (go_at_call 109; refine (HP.out _).mono ?_; rintro e w3 ⟨p, rfl, hp, hb3⟩))
 all_goals first
  | (go_ret; exact ⟨_, rfl, h9, hb1⟩)
  | (go_ret; exact ⟨_, rfl, Nat.le_trans hp h12, hb1.trans (hb3.mono hb1.size)⟩)
def StrsAt (w : World) (g n : Nat) : Prop := ∀ j, j < n -> ∃ t : ByteArray, w.cell? ⟨g, j, none⟩ = some (.string t)
theorem Blk.new_at (W : World) (g : Nat) (h : W.heap.size = g) (t : TypeId) (cs : Array Value) : Blk (W.alloc (.cells cs t)) g t cs := by subst h; exact Blk.new W t cs
def isStr : Value -> Bool
 | .string _ => true
 | _ => false
theorem StrsAt.of {w : World} {g n : Nat} {t : TypeId} {cs : Array Value} (h : Blk w g t cs) (hs : cs.toList.all isStr = true) (hn : n = cs.size) : StrsAt w g n := fun j hj => by
 subst hn
 have h2 := List.all_eq_true.1 hs (cs[j]'hj) (by rw [<- Array.getElem_toList]; exact List.getElem_mem _)
 rw [h.cell j, Array.getElem?_eq_getElem hj]
 cases hv : cs[j]'hj with
 | string t => exact ⟨t, rfl⟩
 | _ => rw [hv] at h2; cases h2
theorem one06_any (g n c : Nat) (s : ByteArray) (w : World) (hn : n <= 1099511627776) (h : StrsAt w g n) : Calls Tryz.prog 122 #[.slice (some ⟨g, 0, none⟩) n c, .string s] w (PB w) := by
 have H := hid h
 clear h
 go_enter Tryz.func122, Tryz.ntmps122
 go_wp2
 go_loop [5] (fun i => ∃ k : Nat, i = .int .i64 (k : Int) /\ k <= n) (fun i => n - (intOf i).toNat)
 case atStart => exact ⟨0, rfl, Nat.zero_le _⟩
 obtain ⟨k, rfl, hk⟩ := hrel
 by_cases hlt : k < n
 ·obtain ⟨t, hc⟩ := H.out k hlt;have hli : (k : Int) < (n : Int) := by omega
  go_wp2
  all_goals first
   | (go_ret; exact ⟨_, rfl, rfl⟩)
   | (go_round
      case rel => exact ⟨k + 1, by go_num, by omega⟩
      simp [intOf]; omega)
 obtain rfl : k = n := by omega
 go_wp2
 go_ret
 exact ⟨_, rfl, rfl⟩
theorem attribute_any (el at_ : ByteArray) (w : World) (h1 : el.size <= 1048576) (h2 : at_.size <= 1048576) : Calls Tryz.prog 102 #[.string el, .string at_] w (AI w) := by
 have HO := hid (fun g n c s W hn h => one06_any g n c s W hn h)
 have HB := hid (fun p W hp => begs_any p at_ W hp (by omega))
 go_enter Tryz.func102, Tryz.ntmps102
 go_wp2_with (first
  | (go_at_call 122; (with_reducible refine (HO.out _ _ _ _ _ ?ca ?cb).mono ?_); (case ca => omega); (case cb => first | exact StrsAt.of (Blk.new _ _ _) (by rfl) rfl | exact StrsAt.of (Blk.new_at _ _ (by simp) _ _) (by rfl) rfl); rintro e w1 ⟨b, rfl, hw⟩; obtain rfl := hw)
  | (go_at_call 35; (with_reducible refine (HB.out _ _ ?ca).mono ?_); (case ca => decide); rintro e w2 ⟨b, rfl, _, hw⟩; obtain rfl := hw))
 all_goals (go_ret; exact ⟨_, rfl, by go_grown⟩)
theorem st_cells {w : World} {g : Nat} {k : Int} {el at_ : ByteArray} {dl : Int} {pe rf : ByteArray} {pa : Int} {wd : ByteArray} (h : Blk w g 32 #[.int .i64 k, .string el, .string at_, .int .u8 dl, .string pe, .string rf, .int .i64 pa, .string wd]) :
  (w.cell? ⟨g, 0, none⟩ = some (.int .i64 k) /\ w.cell? ⟨g, 1, none⟩ = some (.string el) /\ w.cell? ⟨g, 2, none⟩ = some (.string at_) /\ w.cell? ⟨g, 3, none⟩ = some (.int .u8 dl) /\ w.cell? ⟨g, 4, none⟩ = some (.string pe) /\ w.cell? ⟨g, 5, none⟩ = some (.string rf) /\ w.cell? ⟨g, 6, none⟩ = some (.int .i64 pa) /\ w.cell? ⟨g, 7, none⟩ = some (.string wd)) /\
  (w.frozen? ⟨g, 0, none⟩ = false /\ w.frozen? ⟨g, 1, none⟩ = false /\ w.frozen? ⟨g, 2, none⟩ = false /\ w.frozen? ⟨g, 3, none⟩ = false /\ w.frozen? ⟨g, 4, none⟩ = false /\ w.frozen? ⟨g, 5, none⟩ = false /\ w.frozen? ⟨g, 6, none⟩ = false /\ w.frozen? ⟨g, 7, none⟩ = false) :=
 ⟨⟨(h.cell 0).trans rfl, (h.cell 1).trans rfl, (h.cell 2).trans rfl, (h.cell 3).trans rfl, (h.cell 4).trans rfl, (h.cell 5).trans rfl, (h.cell 6).trans rfl, (h.cell 7).trans rfl⟩, h.frozen 0, h.frozen 1, h.frozen 2, h.frozen 3, h.frozen 4, h.frozen 5, h.frozen 6, h.frozen 7⟩
theorem kind13_any (k : Int) (el at_ : ByteArray) (dl : Int) (pe rf : ByteArray) (pa : Int) (wd : ByteArray) (w : World) (h1 : el.size <= 1048576) (h2 : at_.size <= 1048576) : Calls Tryz.prog 76 #[.agg #[.int .i64 k, .string el, .string at_, .int .u8 dl, .string pe, .string rf, .int .i64 pa, .string wd]] w (AI w) := by
 have HB := hid (fun W => begs_any ⟨#[47]⟩ el W (by decide) (by omega))
 have HA := hid (fun W => attribute_any el at_ W h1 h2)
 have Hb := hid (alloc_below w (.cells #[.int .i64 k, .string el, .string at_, .int .u8 dl, .string pe, .string rf, .int .i64 pa, .string wd] 32))
 go_enter Tryz.func76, Tryz.ntmps76
 go_wp2_with (first
  | (go_at_call 35; refine (HB.out _).mono ?_; rintro e w2 ⟨b, rfl, _, hw⟩; obtain rfl := hw)
  | (go_at_call 102; refine (HA.out _).mono ?_; rintro e w3 ⟨r, rfl, hb3⟩))
 all_goals first
  | (go_ret; exact ⟨_, rfl, Hb.out⟩)
  | (go_ret; exact ⟨_, rfl, Hb.out.trans (hb3.mono Hb.out.size)⟩)
theorem language_any (k : Int) (el at_ : ByteArray) (dl : Int) (pe rf : ByteArray) (pa : Int) (wd : ByteArray) (w : World) (h1 : el.size <= 1048576) (h2 : at_.size <= 1048576) : Calls Tryz.prog 77 #[.agg #[.int .i64 k, .string el, .string at_, .int .u8 dl, .string pe, .string rf, .int .i64 pa, .string wd]] w (AI w) := by
 have HK := hid (fun W => kind13_any k el at_ dl pe rf pa wd W h1 h2)
 have Hb := hid (alloc_below w (.cells #[.int .i64 k, .string el, .string at_, .int .u8 dl, .string pe, .string rf, .int .i64 pa, .string wd] 32))
 have HB := hid (Blk.new w 32 #[.int .i64 k, .string el, .string at_, .int .u8 dl, .string pe, .string rf, .int .i64 pa, .string wd])
 go_enter Tryz.func77, Tryz.ntmps77
 go_wp2_with (first
  | (go_at_call 76; refine (HK.out (w.alloc (.cells #[.int .i64 k, .string el, .string at_, .int .u8 dl, .string pe, .string rf, .int .i64 pa, .string wd] 32))).mono ?_; rintro e w2 ⟨r, rfl, hb2⟩; have HB2 := hid (HB.out.below hb2 (by simp)); obtain ⟨⟨c0, c1, c2, c3, c4, c5, c6, c7⟩, _⟩ := st_cells HB2.out)
  | (go_at_call 76; refine (HK.out w2).mono ?_; rintro e w3 ⟨r3, rfl, hb3⟩))
 all_goals first
  | (go_ret; exact ⟨_, rfl, Hb.out⟩)
  | (go_ret; exact ⟨_, rfl, Hb.out.trans (hb2.mono Hb.out.size)⟩)
  | (go_ret; exact ⟨_, rfl, (Hb.out.trans (hb2.mono Hb.out.size)).trans (hb3.mono (Nat.le_trans Hb.out.size hb2.size))⟩)
def StOk (n : Nat) (el at_ pe rf wd : ByteArray) : Prop := el.size <= n /\ at_.size <= n /\ pe.size <= n /\ rf.size <= n /\ wd.size <= n
def PChk (P : Prop) (w : World) (e : Ending) (w' : World) : Prop := ∃ r : Int, e = .returned (.int .i64 r) /\ (r = 0 -> P) /\ Below w.heap.size w w'
theorem DtN.stay {b0 lo : Nat} {w w' : World} {v : Value} {d : Dt} (h : DtN b0 lo w v d) (hs : w.heap.size <= w'.heap.size) (hS : ∀ b, SD b0 lo w b -> b < w.heap.size -> w'.heap[b]? = w.heap[b]?) : DtN b0 lo w' v d :=
 DtV.keep hs (fun b hb hl => ⟨hb.keep (hS b hb hl), hS b hb hl⟩) d v h
theorem RowsN.stay {b0 lo : Nat} {w w' : World} {sz : Nat} {A : Option Addr} {l : List (List Dt)} (h : RowsN b0 lo w sz A l) (hs : w.heap.size <= w'.heap.size) (hS : ∀ b, SD b0 lo w b -> b < w.heap.size -> w'.heap[b]? = w.heap[b]?) : RowsN b0 lo w' sz A l :=
 RowsV.keep hs (fun b hb hl => ⟨hb.keep (hS b hb hl), hS b hb hl⟩) l sz A 0 h
theorem SD.ne_ {b0 lo : Nat} {w : World} {b g : Nat} (h : SD b0 lo w b) (h0 : b0 <= g) (h1 : g < lo) : b ≠ g := by
 rintro rfl
 rcases h with h | ⟨h, _⟩ <;> omega
theorem OwnN.far {b0 lo base : Nat} {w : World} {e : TypeId} {sz : Nat} {v : Value} {l : List (List Dt)} (h : OwnN b0 lo w base e sz v l) {p : Addr} (hb : p.block < base) (h0 : b0 <= p.block) (h1 : p.block < lo) (u : Value) : OwnN b0 lo (w.setCell p u) base e sz v l :=
 h.stay (by simp) (fun g _ hg _ => Below.heap_setCell w p u g (by have := (h.lt g hg).1; omega)) fun b hS _ => Below.heap_setCell w p u b (hS.ne_ h0 h1)
theorem DtN.far {b0 lo : Nat} {w : World} {v : Value} {d : Dt} (h : DtN b0 lo w v d) {p : Addr} (h0 : b0 <= p.block) (h1 : p.block < lo) (u : Value) : DtN b0 lo (w.setCell p u) v d :=
 h.stay (by simp) fun b hb _ => Below.heap_setCell w p u b (hb.ne_ h0 h1)
theorem RowsN.far {b0 lo : Nat} {w : World} {sz : Nat} {A : Option Addr} {l : List (List Dt)} (h : RowsN b0 lo w sz A l) {p : Addr} (h0 : b0 <= p.block) (h1 : p.block < lo) (u : Value) : RowsN b0 lo (w.setCell p u) sz A l :=
 h.stay (by simp) fun b hb _ => Below.heap_setCell w p u b (hb.ne_ h0 h1)
theorem blk2_cells {w : World} {g : Nat} {t : TypeId} {a0 a1 : Value} (h : Blk w g t #[a0, a1]) : (w.cell? ⟨g, 0, none⟩ = some a0 /\ w.cell? ⟨g, 1, none⟩ = some a1) /\ (w.frozen? ⟨g, 0, none⟩ = false /\ w.frozen? ⟨g, 1, none⟩ = false) :=
 ⟨⟨(h.cell 0).trans rfl, (h.cell 1).trans rfl⟩, h.frozen 0, h.frozen 1⟩
theorem blk2_put {w : World} {g : Nat} {t : TypeId} {a0 a1 v0 v1 : Value} (h : Blk w g t #[a0, a1]) : Blk ((w.setCell ⟨g, 0, none⟩ v0).setCell ⟨g, 1, none⟩ v1) g t #[v0, v1] := by
 have h1 := h.set_ 0 v0
 have h2 := h1.set_ 1 v1
 simp only [List.setIfInBounds_toArray, List.set_cons_zero, List.set_cons_succ] at h2
 exact h2
theorem dtn_put2 {b0 lo g : Nat} {w : World} {vv : Value} {d : Dt} (h : DtN b0 lo w vv d) (h0 : b0 <= g) (h1 : g < lo) {v0 v1 : Value} : DtN b0 lo ((w.setCell ⟨g, 0, none⟩ v0).setCell ⟨g, 1, none⟩ v1) vv d :=
 (h.far (p := ⟨g, 0, none⟩) h0 h1 v0).far (p := ⟨g, 1, none⟩) h0 h1 v1
theorem put2_below {w : World} {g B : Nat} (hB : B <= g) {v0 v1 : Value} : Below B w ((w.setCell ⟨g, 0, none⟩ v0).setCell ⟨g, 1, none⟩ v1) :=
 ((Below.refl B w).setCell (p := ⟨g, 0, none⟩) hB v0).setCell (p := ⟨g, 1, none⟩) hB v1
theorem blk3_cells {w : World} {g : Nat} {t : TypeId} {a0 a1 a2 : Value} (h : Blk w g t #[a0, a1, a2]) : (w.cell? ⟨g, 0, none⟩ = some a0 /\ w.cell? ⟨g, 1, none⟩ = some a1 /\ w.cell? ⟨g, 2, none⟩ = some a2) /\ (w.frozen? ⟨g, 0, none⟩ = false /\ w.frozen? ⟨g, 1, none⟩ = false /\ w.frozen? ⟨g, 2, none⟩ = false) :=
 ⟨⟨(h.cell 0).trans rfl, (h.cell 1).trans rfl, (h.cell 2).trans rfl⟩, h.frozen 0, h.frozen 1, h.frozen 2⟩
theorem blk3_put {w : World} {g : Nat} {t : TypeId} {a0 a1 a2 v0 v1 v2 : Value} (h : Blk w g t #[a0, a1, a2]) : Blk (((w.setCell ⟨g, 0, none⟩ v0).setCell ⟨g, 1, none⟩ v1).setCell ⟨g, 2, none⟩ v2) g t #[v0, v1, v2] := by
 have h1 := h.set_ 0 v0
 have h2 := h1.set_ 1 v1
 have h3 := h2.set_ 2 v2
 simp only [List.setIfInBounds_toArray, List.set_cons_zero, List.set_cons_succ] at h3
 exact h3
theorem blk5_cells {w : World} {g : Nat} {t : TypeId} {a0 a1 a2 a3 a4 : Value} (h : Blk w g t #[a0, a1, a2, a3, a4]) : (w.cell? ⟨g, 0, none⟩ = some a0 /\ w.cell? ⟨g, 1, none⟩ = some a1 /\ w.cell? ⟨g, 2, none⟩ = some a2 /\ w.cell? ⟨g, 3, none⟩ = some a3 /\ w.cell? ⟨g, 4, none⟩ = some a4) /\ (w.frozen? ⟨g, 0, none⟩ = false /\ w.frozen? ⟨g, 1, none⟩ = false /\ w.frozen? ⟨g, 2, none⟩ = false /\ w.frozen? ⟨g, 3, none⟩ = false /\ w.frozen? ⟨g, 4, none⟩ = false) :=
 ⟨⟨(h.cell 0).trans rfl, (h.cell 1).trans rfl, (h.cell 2).trans rfl, (h.cell 3).trans rfl, (h.cell 4).trans rfl⟩, h.frozen 0, h.frozen 1, h.frozen 2, h.frozen 3, h.frozen 4⟩
theorem blk5_put {w : World} {g : Nat} {t : TypeId} {a0 a1 a2 a3 a4 v0 v1 v2 v3 v4 : Value} (h : Blk w g t #[a0, a1, a2, a3, a4]) : Blk (((((w.setCell ⟨g, 0, none⟩ v0).setCell ⟨g, 1, none⟩ v1).setCell ⟨g, 2, none⟩ v2).setCell ⟨g, 3, none⟩ v3).setCell ⟨g, 4, none⟩ v4) g t #[v0, v1, v2, v3, v4] := by
 have h1 := h.set_ 0 v0
 have h2 := h1.set_ 1 v1
 have h3 := h2.set_ 2 v2
 have h4 := h3.set_ 3 v3
 have h5 := h4.set_ 4 v4
 simp only [List.setIfInBounds_toArray, List.set_cons_zero, List.set_cons_succ] at h5
 exact h5
theorem dtn_put5 {b0 lo g : Nat} {w : World} {vv : Value} {d : Dt} (h : DtN b0 lo w vv d) (h0 : b0 <= g) (h1 : g < lo) {v0 v1 v2 v3 v4 : Value} : DtN b0 lo (((((w.setCell ⟨g, 0, none⟩ v0).setCell ⟨g, 1, none⟩ v1).setCell ⟨g, 2, none⟩ v2).setCell ⟨g, 3, none⟩ v3).setCell ⟨g, 4, none⟩ v4) vv d :=
 ((((h.far (p := ⟨g, 0, none⟩) h0 h1 v0).far (p := ⟨g, 1, none⟩) h0 h1 v1).far (p := ⟨g, 2, none⟩) h0 h1 v2).far (p := ⟨g, 3, none⟩) h0 h1 v3).far (p := ⟨g, 4, none⟩) h0 h1 v4
theorem put5_below {w : World} {g B : Nat} (hB : B <= g) {v0 v1 v2 v3 v4 : Value} : Below B w (((((w.setCell ⟨g, 0, none⟩ v0).setCell ⟨g, 1, none⟩ v1).setCell ⟨g, 2, none⟩ v2).setCell ⟨g, 3, none⟩ v3).setCell ⟨g, 4, none⟩ v4) :=
 (((((Below.refl B w).setCell (p := ⟨g, 0, none⟩) hB v0).setCell (p := ⟨g, 1, none⟩) hB v1).setCell (p := ⟨g, 2, none⟩) hB v2).setCell (p := ⟨g, 3, none⟩) hB v3).setCell (p := ⟨g, 4, none⟩) hB v4
theorem blk6_cells {w : World} {g : Nat} {t : TypeId} {a0 a1 a2 a3 a4 a5 : Value} (h : Blk w g t #[a0, a1, a2, a3, a4, a5]) : (w.cell? ⟨g, 0, none⟩ = some a0 /\ w.cell? ⟨g, 1, none⟩ = some a1 /\ w.cell? ⟨g, 2, none⟩ = some a2 /\ w.cell? ⟨g, 3, none⟩ = some a3 /\ w.cell? ⟨g, 4, none⟩ = some a4 /\ w.cell? ⟨g, 5, none⟩ = some a5) /\ (w.frozen? ⟨g, 0, none⟩ = false /\ w.frozen? ⟨g, 1, none⟩ = false /\ w.frozen? ⟨g, 2, none⟩ = false /\ w.frozen? ⟨g, 3, none⟩ = false /\ w.frozen? ⟨g, 4, none⟩ = false /\ w.frozen? ⟨g, 5, none⟩ = false) :=
 ⟨⟨(h.cell 0).trans rfl, (h.cell 1).trans rfl, (h.cell 2).trans rfl, (h.cell 3).trans rfl, (h.cell 4).trans rfl, (h.cell 5).trans rfl⟩, h.frozen 0, h.frozen 1, h.frozen 2, h.frozen 3, h.frozen 4, h.frozen 5⟩
theorem blk9_cells {w : World} {g : Nat} {t : TypeId} {a0 a1 a2 a3 a4 a5 a6 a7 a8 : Value} (h : Blk w g t #[a0, a1, a2, a3, a4, a5, a6, a7, a8]) : (w.cell? ⟨g, 0, none⟩ = some a0 /\ w.cell? ⟨g, 1, none⟩ = some a1 /\ w.cell? ⟨g, 2, none⟩ = some a2 /\ w.cell? ⟨g, 3, none⟩ = some a3 /\ w.cell? ⟨g, 4, none⟩ = some a4 /\ w.cell? ⟨g, 5, none⟩ = some a5 /\ w.cell? ⟨g, 6, none⟩ = some a6 /\ w.cell? ⟨g, 7, none⟩ = some a7 /\ w.cell? ⟨g, 8, none⟩ = some a8) /\ (w.frozen? ⟨g, 0, none⟩ = false /\ w.frozen? ⟨g, 1, none⟩ = false /\ w.frozen? ⟨g, 2, none⟩ = false /\ w.frozen? ⟨g, 3, none⟩ = false /\ w.frozen? ⟨g, 4, none⟩ = false /\ w.frozen? ⟨g, 5, none⟩ = false /\ w.frozen? ⟨g, 6, none⟩ = false /\ w.frozen? ⟨g, 7, none⟩ = false /\ w.frozen? ⟨g, 8, none⟩ = false) :=
 ⟨⟨(h.cell 0).trans rfl, (h.cell 1).trans rfl, (h.cell 2).trans rfl, (h.cell 3).trans rfl, (h.cell 4).trans rfl, (h.cell 5).trans rfl, (h.cell 6).trans rfl, (h.cell 7).trans rfl, (h.cell 8).trans rfl⟩, h.frozen 0, h.frozen 1, h.frozen 2, h.frozen 3, h.frozen 4, h.frozen 5, h.frozen 6, h.frozen 7, h.frozen 8⟩
theorem blk9_put {w : World} {g : Nat} {t : TypeId} {a0 a1 a2 a3 a4 a5 a6 a7 a8 v0 v1 v2 v3 v4 v5 v6 v7 v8 : Value} (h : Blk w g t #[a0, a1, a2, a3, a4, a5, a6, a7, a8]) : Blk (((((((((w.setCell ⟨g, 0, none⟩ v0).setCell ⟨g, 1, none⟩ v1).setCell ⟨g, 2, none⟩ v2).setCell ⟨g, 3, none⟩ v3).setCell ⟨g, 4, none⟩ v4).setCell ⟨g, 5, none⟩ v5).setCell ⟨g, 6, none⟩ v6).setCell ⟨g, 7, none⟩ v7).setCell ⟨g, 8, none⟩ v8) g t #[v0, v1, v2, v3, v4, v5, v6, v7, v8] := by
 have h1 := h.set_ 0 v0
 have h2 := h1.set_ 1 v1
 have h3 := h2.set_ 2 v2
 have h4 := h3.set_ 3 v3
 have h5 := h4.set_ 4 v4
 have h6 := h5.set_ 5 v5
 have h7 := h6.set_ 6 v6
 have h8 := h7.set_ 7 v7
 have h9 := h8.set_ 8 v8
 simp only [List.setIfInBounds_toArray, List.set_cons_zero, List.set_cons_succ] at h9
 exact h9
theorem dtn_put9 {b0 lo g : Nat} {w : World} {vv : Value} {d : Dt} (h : DtN b0 lo w vv d) (h0 : b0 <= g) (h1 : g < lo) {v0 v1 v2 v3 v4 v5 v6 v7 v8 : Value} : DtN b0 lo (((((((((w.setCell ⟨g, 0, none⟩ v0).setCell ⟨g, 1, none⟩ v1).setCell ⟨g, 2, none⟩ v2).setCell ⟨g, 3, none⟩ v3).setCell ⟨g, 4, none⟩ v4).setCell ⟨g, 5, none⟩ v5).setCell ⟨g, 6, none⟩ v6).setCell ⟨g, 7, none⟩ v7).setCell ⟨g, 8, none⟩ v8) vv d :=
 ((((((((h.far (p := ⟨g, 0, none⟩) h0 h1 v0).far (p := ⟨g, 1, none⟩) h0 h1 v1).far (p := ⟨g, 2, none⟩) h0 h1 v2).far (p := ⟨g, 3, none⟩) h0 h1 v3).far (p := ⟨g, 4, none⟩) h0 h1 v4).far (p := ⟨g, 5, none⟩) h0 h1 v5).far (p := ⟨g, 6, none⟩) h0 h1 v6).far (p := ⟨g, 7, none⟩) h0 h1 v7).far (p := ⟨g, 8, none⟩) h0 h1 v8
def ArOk (n : Nat) (a : Ar) : Prop := a.nm.size <= n /\ a.x.size <= n /\ a.path.length <= n /\ ∀ p ∈ a.path, p.size <= n
def PArg (n : Nat) (w : World) (e : Ending) (w' : World) : Prop := ∃ (a : Ar) (vp : Value) (er : Int), e = .returned (.tuple #[.agg #[.int .i64 a.k, .string a.nm, vp, .int .i64 a.n, .string a.x], .int .i64 er]) /\ DtN 0 w.heap.size w' vp (.rows 1 (strRows a.path)) /\ ArOk n a /\ Below w.heap.size w w'
theorem PArg.mk_ {n : Nat} {w w' : World} {k : Int} {nm : ByteArray} {vp : Value} {path : List ByteArray} {m : Int} {x : ByteArray} {er : Int} (h : DtN 0 w.heap.size w' vp (.rows 1 (strRows path))) (h1 : nm.size <= n) (h2 : x.size <= n) (h3 : path.length <= n /\ ∀ p ∈ path, p.size <= n) (hb : Below w.heap.size w w') :
  PArg n w (.returned (.tuple #[.agg #[.int .i64 k, .string nm, vp, .int .i64 m, .string x], .int .i64 er])) w' := ⟨⟨k, nm, path, m, x⟩, vp, er, rfl, h, ⟨h1, h2, h3.1, h3.2⟩, hb⟩
theorem arg_any (k : Int) (x : ByteArray) (at_ : Int) (w : World) (hx : x.size <= 1048576) (hk1 : k = 3 -> 1 <= x.size) : Calls Tryz.prog 114 #[.agg #[.int .i64 k, .string x, .int .i64 at_]] w (PArg (x.size + 1) w) := by
 have HP := hid (fun s hs W => path_any s W hs)
 have HI := hid (fun W => parse01_any x W (by omega))
 obtain ⟨W, hW⟩ := xE ((w.alloc (.cells #[.int .i64 k, .string x, .int .i64 at_] 128)).alloc (.cells #[.int .i64 0, .string ⟨#[]⟩, .slice none 0 0, .int .i64 0, .string ⟨#[]⟩] 137))
 have HS : Hid (Blk W w.heap.size 128 #[.int .i64 k, .string x, .int .i64 at_]) := hid (by rw [<- hW]; exact (Blk.new w _ _).alloc _)
 have HR : Hid (Blk W (w.heap.size + 1) 137 #[.int .i64 0, .string ⟨#[]⟩, .slice none 0 0, .int .i64 0, .string ⟨#[]⟩]) := hid (by rw [<- hW]; exact Blk.new_at _ _ (by simp) _ _)
 have HbW : Hid (Below w.heap.size w W) := hid (by rw [<- hW]; go_grown)
 obtain ⟨pt, hpt⟩ := xE w.heap.size
 have hlt2 := HR.out.lt
 have hlt1 := HS.out.lt
 rw [hpt] at HS HR hlt1 hlt2
 have hsz : Hid (W.heap.size = pt + 2) := hid (by rw [<- hW, <- hpt]; simp)
 obtain ⟨⟨c0, c1, c2⟩, f0, f1, f2⟩ := blk3_cells HS.out
 go_enter Tryz.func114, Tryz.ntmps114
 go_upto_region 2 with fail
 clear hW
 by_cases k3 : k = 3
 ·subst k3;have hx1 := hk1 rfl;clear hk1;go_wp2_with fail
  go_loop [6] (fun i => ∃ j : Nat, 1 <= j /\ j <= x.size /\ i = .int .i64 (j : Int)) (fun i => x.size - (intOf i).toNat)
  case atStart => exact ⟨1, Nat.le_refl _, hx1, rfl⟩
  obtain ⟨j, hj1, hj, rfl⟩ := hrel;have hji : (1 : Int) <= (j : Int) := by omega
  have hjl : (j : Int) <= (x.size : Int) := by omega
  have HP1 := hid (HP.out (x.extract j x.size) (by rw [ByteArray.size_extract]; omega));obtain ⟨z, hz⟩ := xE (x.extract j x.size);have hzz : z.size <= x.size := by rw [<- hz, ByteArray.size_extract]; omega
  rw [hz] at HP1;obtain ⟨y, hy⟩ := xE (x.extract 1 j);have hyy : y.size <= x.size := by rw [<- hy, ByteArray.size_extract]; omega
  by_cases hlt : j < x.size
  ·have hli : (j : Int) < x.size := by omega
   obtain ⟨n1, hn1, hn0, hn255⟩ := u8b x j hlt;obtain ⟨q, hq⟩ := xE (n1 != 46);cases q
   ·go_upto_region 18 with (go_at_call 133; refine (HP1.out _).mono ?_; rintro e w1 ⟨vp, l, er, rfl, hd, hl, hb⟩; obtain ⟨A, c, rfl, _⟩ := DtV.slice hd (strRows_len l); have HD := hid hd; clear hd; clear c0 c1 c2 f0 f1 f2)
    have HR1 := hid (HR.out.below hb hlt2);have HS1 := hid (HS.out.below hb hlt1);obtain ⟨⟨d0, d1, d2, d3, d4⟩, g0, g1, g2, g3, g4⟩ := blk5_cells HR1.out;obtain ⟨⟨c0, c1, c2⟩, f0, f1, f2⟩ := blk3_cells HS1.out;have Hl := hid hl;have Hlt2 := hid hlt2;have Hb := hid hb;clear hz HP1 hl hlt1 hlt2 hb;go_wp2_with fail
    (try simp only [Exit.inBlock, Exit.then]);refine rc1 (pt + 1) (blk5_put HR1.out) ?_;have hb2 : Below w.heap.size w w1 := HbW.out.trans (Hb.out.mono HbW.out.size);exact PArg.mk_ (DtN.up (dtn_put5 HD.out (Nat.zero_le _) Hlt2.out) (Nat.le_refl _) HbW.out.size) (by omega) (Nat.zero_le _) ⟨by have := Hl.out.1; omega, fun p hp => by have := Hl.out.2 p hp; omega⟩ (hb2.trans (put5_below (by omega)))
   go_wp2_with fail
   go_round
   case rel => exact ⟨j + 1, by omega, by omega, by go_num⟩
   simp [intOf]; omega
  have hlf : ¬ ((j : Int) < (x.size : Int)) := by omega
  go_upto_region 18 with (go_at_call 133; refine (HP1.out _).mono ?_; rintro e w1 ⟨vp, l, er, rfl, hd, hl, hb⟩; obtain ⟨A, c, rfl, _⟩ := DtV.slice hd (strRows_len l); have HD := hid hd; clear hd; clear c0 c1 c2 f0 f1 f2)
  have HR1 := hid (HR.out.below hb hlt2);have HS1 := hid (HS.out.below hb hlt1);obtain ⟨⟨d0, d1, d2, d3, d4⟩, g0, g1, g2, g3, g4⟩ := blk5_cells HR1.out;obtain ⟨⟨c0, c1, c2⟩, f0, f1, f2⟩ := blk3_cells HS1.out;have Hl := hid hl;have Hlt2 := hid hlt2;have Hb := hid hb;clear hz HP1 hl hlt1 hlt2 hb;go_wp2_with fail
  (try simp only [Exit.inBlock, Exit.then]);refine rc1 (pt + 1) (blk5_put HR1.out) ?_;have hb2 : Below w.heap.size w w1 := HbW.out.trans (Hb.out.mono HbW.out.size);exact PArg.mk_ (DtN.up (dtn_put5 HD.out (Nat.zero_le _) Hlt2.out) (Nat.le_refl _) HbW.out.size) (by omega) (Nat.zero_le _) ⟨by have := Hl.out.1; omega, fun p hp => by have := Hl.out.2 p hp; omega⟩ (hb2.trans (put5_below (by omega)))
 have hk3 : (k == 3) = false := beq_eq_false_iff_ne.2 k3
 obtain ⟨⟨d0, d1, d2, d3, d4⟩, g0, g1, g2, g3, g4⟩ := blk5_cells HR.out
 go_wp2_with (first
  | (go_at_call 133; refine (HP.out x (by omega) _).mono ?_; rintro e w1 ⟨vp, l, er, rfl, hd, hl, hb⟩; have HR1 := hid (HR.out.below hb hlt2); obtain ⟨A, c, rfl, _⟩ := DtV.slice hd (strRows_len l); have HD := hid hd; clear hd; clear c0 c1 c2 f0 f1 f2; clear d0 d1 d2 d3 d4 g0 g1 g2 g3 g4; obtain ⟨⟨d0, d1, d2, d3, d4⟩, g0, g1, g2, g3, g4⟩ := blk5_cells HR1.out)
  | (go_at_call 96; refine (HI.out _).mono ?_; rintro e w1 ⟨na, nb, rfl, hw⟩; obtain rfl := hw))
 all_goals first
  | (
   (try simp only [Exit.inBlock, Exit.then]);refine rc1 (pt + 1) (blk5_put HR1.out) ?_;have hb2 : Below w.heap.size w w1 := HbW.out.trans (hb.mono HbW.out.size);exact PArg.mk_ (DtN.up (dtn_put5 HD.out (Nat.zero_le _) hlt2) (Nat.le_refl _) (by omega)) (Nat.zero_le _) (Nat.zero_le _) hl (hb2.trans (put5_below (by omega)))
   done)
  | (
   (try simp only [Exit.inBlock, Exit.then]);refine rc1 (pt + 1) (blk5_put HR.out) ?_;exact PArg.mk_ (path := []) DtV.none_ (Nat.zero_le _) (by first | exact Nat.zero_le _ | omega) ⟨Nat.zero_le _, fun _ h => by cases h⟩ (HbW.out.trans (put5_below (by omega)))
   done)
end Go.Proofs.YtkcnmjdomipbjaaGreat
