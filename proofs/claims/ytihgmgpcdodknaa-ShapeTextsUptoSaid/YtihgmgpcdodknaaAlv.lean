import Derived.Test.YtihgmgpcdodknaaMch
import Derived.Test.YtihgmgpcdodknaaShp
import Derived.Test.YtihgmgpcdodknaaSam
import Derived.Test.YtihgmgpcdodknaaBstr
set_option linter.unusedVariables false
/- Plain: how many attributes, how many tokens there may be. -/
namespace Go.Proofs.Ytihgmgpcdodknaa
open Go.RowKit

def OA (b : Nat) (m : Mc) : Prop := m.tag.ats.length ≤ b ∧ ∀ t ∈ m.out, t.ats.length ≤ b
theorem OA.up {b b' : Nat} {m : Mc} (h : OA b m) (hb : b ≤ b') : OA b' m := ⟨Nat.le_trans h.1 hb, fun t ht => Nat.le_trans (h.2 t ht) hb⟩
theorem OA.tell {b : Nat} {m m' : Mc} {t : Tk} (h : OA b m) (h1 : m'.tag.ats.length ≤ b) (h2 : m'.out = m.out ++ [t]) (ht : t.ats.length ≤ b) : OA b m' := by
  refine ⟨h1, fun u hu => ?_⟩
  rw [h2] at hu
  rcases List.mem_append.1 hu with hu | hu
  · exact h.2 u hu
  · rw [List.mem_singleton] at hu
    rw [hu]; exact ht
theorem OA.text {b : Nat} {m : Mc} (h : OA b m) (d : Bool) : OA b (mText m d) := by
  unfold mText
  repeat' split
  all_goals first | exact h | exact h.tell h.1 rfl (Nat.zero_le _)
theorem OA.put {b : Nat} {m : Mc} (h : OA b m) : OA (b + 1) (mPut m) := by
  refine ⟨?_, fun t ht => Nat.le_succ_of_le (h.2 t ht)⟩
  show (m.tag.ats ++ [_]).length ≤ _
  rw [List.length_append]
  exact Nat.succ_le_succ h.1
theorem OA.end_ {b : Nat} {m : Mc} (h : OA b m) : OA b (mEnd m) := by
  have hk : (mTok m.tag).ats.length ≤ b := by
    unfold mTok
    split
    · exact Nat.zero_le _
    · exact h.1
  unfold mEnd
  split
  · exact h.tell (Nat.zero_le _) rfl hk
  · exact h.tell (Nat.zero_le _) rfl hk
theorem OA.step {b : Nat} {m : Mc} (h : OA b m) (c : UInt8) (r : List UInt8) : OA (b + 1) (mStep m c r).1 := by
  have h' := h.up (Nat.le_succ b)
  have he := h'.end_
  have hp := h.put
  have hpe := h.put.end_
  have h0 : OA (b + 1) { m with tag := tk0 } := ⟨Nat.zero_le _, h'.2⟩
  have ht := fun d => h'.text d
  have ht0 : ∀ d, OA (b + 1) { mText m d with tag := tk0 } := fun d => ⟨Nat.zero_le _, (ht d).2⟩
  have hc := (show OA (b + 1) { m with tag := { m.tag with c := true } } from h').end_
  unfold mStep
  split
  · unfold mTag
    split <;> (repeat' split)
    all_goals first | exact h' | exact he | exact hp | exact hpe | exact hc
  · split
    · unfold mVal
      split <;> (repeat' split)
      all_goals first | exact h' | exact he | exact hp | exact hpe
    · unfold mOut
      split <;> (repeat' split)
      all_goals first | exact h' | exact h0 | exact ht _ | exact ht0 _ | exact h'.tell h'.1 rfl (Nat.zero_le _)
theorem OA.fin {b : Nat} {m : Mc} (h : OA b m) : OA b (mFin m) := by
  unfold mFin
  repeat' split
  all_goals first | exact h.text _ | exact h | exact h.tell h.1 rfl (Nat.zero_le _)
theorem OA.run : ∀ (f : Nat) {b : Nat} {m : Mc} (h : OA b m) (l : List UInt8), OA (b + f) (mRun f m l)
  | 0, _, _, h, _ => h
  | f + 1, _, _, h, [] => h.fin.up (by omega)
  | f + 1, b, m, h, c :: r => by
    have := OA.run f (h.step c r) (mStep m c r).2
    rw [show b + (f + 1) = b + 1 + f from by omega]
    exact this
theorem toks_ats (s : List UInt8) : ∀ t ∈ (toks s).1, t.ats.length ≤ 196609 := by
  rw [← refT_toks]
  unfold refT
  split
  · intro t ht; simp at ht
  · split
    · intro t ht; simp at ht
    · intro t ht
      have h0 : OA 0 mc0 := ⟨Nat.zero_le _, fun t ht => by simp [mc0] at ht⟩
      have := (OA.run (3 * s.length + 1) h0 s).2 t ht
      omega
theorem toks_len (s : List UInt8) : (toks s).1.length ≤ 4096 := by
  rw [← refT_toks]
  unfold refT
  split
  · exact Nat.zero_le _
  · split
    · exact Nat.zero_le _
    · rename_i _ h
      exact Nat.le_of_not_lt h
end Go.Proofs.Ytihgmgpcdodknaa
/- shape.Shape; muslinlaw32's alive. -/
namespace Go.Proofs.Ytihgmgpcdodknaa
open Go.RowKit

/-- what shape.Shape answers -/
def shpS (r : List Tk × Int) : List Tk := if r.2 = 0 then shapeL r.1 else []
set_option maxRecDepth 100000 in
set_option maxHeartbeats 3200000 in
theorem shapeS_any (s : ByteArray) (w : World) (hs : s.size ≤ 1099511627776) (hm : MaxAt w) :
    Calls Try.prog 25 #[.string s] w fun e w' => ∃ V, e = .returned (.tuple #[V, .int .i64 (toks s.data.toList).2]) ∧ OwnT w' w.heap.size V (shpS (toks s.data.toList)) ∧ Below w.heap.size w w' := by
  have Ht := hid (tokens_any s w hs hm)
  have Hl1 := hid (toks_ats s.data.toList)
  have Hl2 := hid (toks_len s.data.toList)
  obtain ⟨r, hr⟩ : ∃ r, toks s.data.toList = r := ⟨_, rfl⟩
  rw [hr] at Ht Hl1 Hl2 ⊢
  obtain ⟨L, ec⟩ := r
  clear hr hm
  by_cases h0 : ec = 0
  · subst h0
    go_enter Try.func25, Try.ntmps25
    go_wp2_with fail
    refine Ht.out.mono ?_
    rintro e w1 ⟨V, rfl, hT, hb⟩
    have Hof := hid (of_any L V w1 (fun t ht => Nat.le_trans (Hl1.out t ht) (by omega)) (Nat.le_trans Hl2.out (by omega)) (TkA.of_own hT))
    have Hb := hid hb
    clear hT hb
    go_wp2_with fail
    refine Hof.out.mono ?_
    rintro e w2 ⟨V', rfl, hT', hb'⟩
    have Hb2 := hid (Hb.out.trans (hb'.mono Hb.out.size))
    have HT2 := hid (hT'.low Hb.out.size)
    clear hT' hb'
    go_wp2_with fail
    go_ret2
    exact ⟨_, rfl, HT2.out, Hb2.out⟩
  · have hb0 : (ec == 0) = false := beq_eq_false_iff_ne.2 h0
    have hb1 : (ec != 0) = true := by rw [bne, hb0]; rfl
    have Hs : Hid (shpS (L, ec) = []) := hid (by unfold shpS; rw [if_neg h0])
    go_enter Try.func25, Try.ntmps25
    go_wp2_with fail
    refine Ht.out.mono ?_
    rintro e w1 ⟨V, rfl, hT, hb⟩
    have Hb := hid hb
    clear hT hb
    go_wp2_with fail
    go_ret2
    rw [Hs.out]
    exact ⟨_, rfl, OwnT.nil _ _, Hb.out⟩

theorem num32_any (n : Int) (w : World) : Calls Try.prog 26 #[.int .i64 n] w fun e w' => e = .returned (.int .i64 n) ∧ w' = w := by
  go_enter Try.func26, Try.ntmps26
  go_wp2
  go_ret
  exact ⟨rfl, rfl⟩

theorem OwnA.shape2 {w : World} {base : Nat} {v : Value} {l : List Att} (h : OwnA w base v l) (hl : l ≠ []) : ∃ g cap, v = .slice (some ⟨g, 0, none⟩) l.length cap ∧ g < w.heap.size ∧ ∀ j u, (attCells l)[j]? = some u → w.cell? ⟨g, j, none⟩ = some u := by
  rcases h.2 with ⟨_, h0⟩ | ⟨g, cap, cur, e, hb, hg, _⟩
  · exact absurd (List.eq_nil_of_length_eq_zero h0) hl
  · refine ⟨g, cap, e, Blk.lt (t := 39) (cs := cur) hg, fun j u hu => ?_⟩
    have := World.ownsRow.cells h (g := g) (by rw [e]; rfl) j u hu
    cases j <;> simpa [Addr.add] using this
theorem shp_alive : shpS (toks [60, 112, 32, 97, 61, 98, 62, 120]) = [⟨1, [112], [], [([97], [])], false⟩] ∧ (toks [60, 112, 32, 97, 61, 98, 62, 120]).2 = 0 := ⟨by kernel_rfl, by kernel_rfl⟩

set_option maxRecDepth 100000 in
set_option maxHeartbeats 6400000 in
theorem print_alive (V : Value) (w : World) (base : Nat) (hV : OwnT w base V [⟨1, [112], [], [([97], [])], false⟩]) :
    Calls Try.prog 36 #[V] w fun e w' => e = .returned (.string ⟨#[60, 112, 32, 97, 62]⟩) ∧ Below w.heap.size w w' := by
  obtain ⟨g, cap, rfl, hg⟩ := hV.shape (by simp)
  obtain ⟨va, a0, a1, a2, a3, a4, hA⟩ := hV.at_ (i := 0) (t := ⟨1, [112], [], [([97], [])], false⟩) rfl
  obtain ⟨ga, capa, rfl, hga, hcA⟩ := OwnA.shape2 hA (by simp)
  have b0 : w.cell? ⟨ga, 0, none⟩ = some (.string ⟨#[97]⟩) := hcA 0 _ rfl
  have b1 : w.cell? ⟨ga, 1, none⟩ = some (.string ⟨#[]⟩) := hcA 1 _ rfl
  have a1' : w.cell? ⟨g, 1, none⟩ = some (.string ⟨#[112]⟩) := a1
  have a2' : w.cell? ⟨g, 2, none⟩ = some (.string ⟨#[]⟩) := a2
  have a0' : w.cell? ⟨g, 0, none⟩ = some (.int .i64 1) := a0
  have a3' : w.cell? ⟨g, 3, none⟩ = some (.slice (some ⟨ga, 0, none⟩) 1 capa) := a3
  have a4' : w.cell? ⟨g, 4, none⟩ = some (.bool false) := a4
  clear hV hcA hA a0 a1 a2 a3 a4
  go_enter Try.func36, Try.ntmps36
  go_wp2_with fail
  go_loopg [10] 1 (fun g v10 wr => ∃ i : Nat, v10 = .int .i64 (i : Int) ∧ i ≤ 1 ∧ g = 1 - i ∧ Hid (i = 0 → wr = w.alloc (.cells #[.pointer none, .slice none 0 0] 77)) ∧ Hid (i = 1 → ∃ D, Bld w.heap.size D [60, 112, 32, 97, 62] wr ∧ Below w.heap.size w wr))
  case atStart => exact ⟨0, rfl, Nat.zero_le _, rfl, hid (fun _ => rfl), hid (fun h => absurd h (by omega))⟩
  case round =>
    obtain ⟨i, rfl, hi, rfl, h0, h1⟩ := hrel
    by_cases hi0 : i = 0
    · subst hi0
      obtain rfl := (h0.out rfl)
      clear h0 h1
      obtain ⟨W0, hW0⟩ : ∃ W0, ((w.alloc (.cells #[.pointer none, .slice none 0 0] 77)).alloc (.cells #[.int .i64 1, .string ⟨#[112]⟩, .string ⟨#[]⟩, .slice (some ⟨ga, 0, none⟩) 1 capa, .bool false] 36)) = W0 := ⟨_, rfl⟩
      have HB0 : Hid (Bld w.heap.size (w.heap.size + 2) [] W0) := hid (by rw [← hW0]; exact Bld.fresh ((Blk.new w 77 #[.pointer none, .slice none 0 0]).alloc _) (by omega) (by simp))
      have HW0 : Hid (Below w.heap.size w W0) := hid (by rw [← hW0]; exact (alloc_below w _).trans ((alloc_below _ _).mono (by simp)))
      have HT : Hid (Blk W0 (w.heap.size + 1) 36 #[.int .i64 1, .string ⟨#[112]⟩, .string ⟨#[]⟩, .slice (some ⟨ga, 0, none⟩) 1 capa, .bool false]) := hid (by rw [← hW0]; have := Blk.new (w.alloc (.cells #[.pointer none, .slice none 0 0] 77)) 36 #[.int .i64 1, .string ⟨#[112]⟩, .string ⟨#[]⟩, .slice (some ⟨ga, 0, none⟩) 1 capa, .bool false]; simpa using this)
      have HW := hid hW0
      clear hW0
      go_wp2_with fail
      rw [HW.out]
      refine (writeString_any _ _ _ _ _ HB0.out (by decide)).mono ?_
      rintro e w1 ⟨rfl, hB1, hb1⟩
      have HB1 : Hid (Bld w.heap.size (w.heap.size + 2) [60, 112] w1) := hid hB1
      have Hb1 := hid hb1
      have T3 : w1.cell? ⟨w.heap.size + 1, 3, none⟩ = some (.slice (some ⟨ga, 0, none⟩) 1 capa) := (World.cell?_of_block (w := W0) (hb1.block (w.heap.size + 1) (by omega) (by omega))).trans ((HT.out.cell 3).trans rfl)
      clear hB1 hb1
      go_wp2_with fail
      go_loopg [25] 1 (fun g v25 wr => ∃ k : Nat, v25 = .int .i64 (k : Int) ∧ k ≤ 1 ∧ g = 1 - k ∧ Hid (Bld w.heap.size (w.heap.size + 2) (if k = 0 then [60, 112] else [60, 112, 32, 97]) wr) ∧ Hid (BelowX w.heap.size (w.heap.size + 2) W0 wr))
      case atStart => exact ⟨0, rfl, Nat.zero_le _, rfl, HB1, Hb1⟩
      case round =>
        obtain ⟨k, rfl, hk, rfl, HB2, Hb2⟩ := hrel
        have Hw2 := hid (HW0.out.trans (Hb2.out.below (by omega)))
        have T4 : wr.cell? ⟨w.heap.size + 1, 4, none⟩ = some (.bool false) := (World.cell?_of_block (w := W0) (Hb2.out.block (w.heap.size + 1) (by omega) (by omega))).trans ((HT.out.cell 4).trans rfl)
        by_cases hk0 : k = 0
        · subst hk0
          have q0 : wr.cell? ⟨ga, 0, none⟩ = some (.string ⟨#[97]⟩) := (Hw2.out.cell (p := ⟨ga, 0, none⟩) hga).trans b0
          have q1 : wr.cell? ⟨ga, 1, none⟩ = some (.string ⟨#[]⟩) := (Hw2.out.cell (p := ⟨ga, 1, none⟩) hga).trans b1
          have HB3 : Hid (Bld w.heap.size (w.heap.size + 2) [60, 112] (wr.alloc (.cells #[.string ⟨#[97]⟩, .string ⟨#[]⟩] 39))) := hid (HB2.out.keep (alloc_below _ _))
          have Hb3 := hid (Hb2.out.trans (BelowX.of ((alloc_below wr (.cells #[.string ⟨#[97]⟩, .string ⟨#[]⟩] 39)).mono HB2.out.2.1)))
          go_wp2_with fail
          refine (writeString_any _ _ _ _ _ HB3.out (by decide)).mono ?_
          rintro e w2 ⟨rfl, hB4, hb4⟩
          have HB4 : Hid (Bld w.heap.size (w.heap.size + 2) [60, 112, 32, 97] w2) := hid hB4
          have Hb4 := hid (Hb3.out.trans hb4)
          clear hB4 hb4
          go_wp2_with fail
          go_roundg 0
          case measure => omega
          case rel => exact ⟨1, rfl, Nat.le_refl _, rfl, HB4, Hb4⟩
        · obtain rfl : k = 1 := by omega
          go_wp2_with fail
          refine (writeString_any _ _ [60, 112, 32, 97] _ _ HB2.out (by decide)).mono ?_
          rintro e w2 ⟨rfl, hB4, hb4⟩
          have HB4 : Hid (Bld w.heap.size (w.heap.size + 2) [60, 112, 32, 97, 62] w2) := hid hB4
          have Hb4 := hid (HW0.out.trans ((Hb2.out.trans hb4).below (by omega)))
          clear hB4 hb4
          go_wp2_with fail
          go_roundg 0
          case measure => omega
          case rel => exact ⟨1, rfl, Nat.le_refl _, rfl, hid (fun h => absurd h (by omega)), hid (fun _ => ⟨_, HB4.out, Hb4.out⟩)⟩
    · obtain rfl : i = 1 := by omega
      obtain ⟨D, hB, hb⟩ := h1.out rfl
      have HB := hid hB
      have Hb := hid hb
      have hD := hB.1
      clear hB hb h0 h1
      go_wp2_with fail
      refine (bstrK_any _ _ _ _ HB.out).mono ?_
      rintro e w2 ⟨rfl, hb2, -⟩
      have Hb2 := hid (Hb.out.trans (hb2.mono (by omega)))
      go_wp2_with fail
      go_ret
      exact ⟨rfl, Hb2.out⟩

set_option maxRecDepth 100000 in
set_option maxHeartbeats 6400000 in
theorem alive32_any (w : World) (hm : MaxAt w) : Calls Try.prog 15 #[] w fun e w' => e = .returned (.bool true) ∧ Below w.heap.size w w' := by
  have Ht := hid (shapeS_any ⟨#[60, 112, 32, 97, 61, 98, 62, 120]⟩ w (by decide) hm)
  rw [show (⟨#[60, 112, 32, 97, 61, 98, 62, 120]⟩ : ByteArray).data.toList = [60, 112, 32, 97, 61, 98, 62, 120] from rfl, shp_alive.1, shp_alive.2] at Ht
  have Hn := hid (fun W => num32_any 0 W)
  go_enter Try.func15, Try.ntmps15
  go_wp2_with fail
  refine Ht.out.mono ?_
  rintro e w1 ⟨V, rfl, hT, hb⟩
  have HT := hid hT
  have Hb := hid hb
  obtain ⟨A, c, hV⟩ := hT.len (n := 1) rfl
  subst hV
  clear hT hb
  have Hpr := hid (print_alive _ w1 _ HT.out)
  go_wp2_with (go_at_call 26; refine (Hn.out _).mono ?_; rintro e w2 ⟨rfl, hw⟩; obtain rfl := hw)
  refine Hpr.out.mono ?_
  rintro e w2 ⟨rfl, hb2⟩
  have Hb2 := hid (Hb.out.trans (hb2.mono Hb.out.size))
  go_wp2_with fail
  go_ret
  exact ⟨rfl, Hb2.out⟩
end Go.Proofs.Ytihgmgpcdodknaa
