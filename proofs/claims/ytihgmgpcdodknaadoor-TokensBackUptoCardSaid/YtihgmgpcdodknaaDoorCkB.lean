import Derived.Test.YtihgmgpcdodknaaDoorWdB
set_option linter.unusedVariables false
/- tokens.tagMay, Check. -/
namespace Go.Proofs.YtihgmgpcdodknaaDoor
open Go.RowKit

def pA (a : Att) : Bool := wordL a.1 [45] && repairL a.2 == a.2
set_option maxHeartbeats 1600000 in
theorem tagMay1_any (n v : ByteArray) (w : World) (hn : n.size ≤ 1048576) (hv : v.size ≤ 1048576) (hT : TabsAt w) :
    Calls Tryd.prog 98 #[.agg #[.string n, .string v]] w fun e w' => e = .returned (.bool (!pA (n.data.toList, v.data.toList))) ∧ Below w.heap.size w w' := by
  have Hw := hid (fun W => wordB_any n ⟨#[45]⟩ W (by omega))
  have HR := hid (fun W (h : TabsAt W) => repair_any v W (by omega) h)
  rw [show (⟨#[45]⟩ : ByteArray).data.toList = [45] from rfl] at Hw
  obtain ⟨res, hres⟩ : ∃ r, pA (n.data.toList, v.data.toList) = r := ⟨_, rfl⟩
  rw [hres]
  obtain ⟨wb, hwb⟩ : ∃ b, wordL n.data.toList [45] = b := ⟨_, rfl⟩
  have Hres : Hid (res = (wb && repairL v.data.toList == v.data.toList)) := hid (by rw [← hres, ← hwb]; rfl)
  rw [hwb] at Hw
  clear hres hwb
  obtain ⟨W, hW⟩ : ∃ W, w.alloc (.cells #[.string n, .string v] 95) = W := ⟨_, rfl⟩
  have hB : Blk W w.heap.size 95 #[.string n, .string v] := by rw [← hW]; exact Blk.new w _ _
  have HbW : Hid (Below w.heap.size w W) := hid (by rw [← hW]; exact alloc_below w _)
  have HTW : Hid (TabsAt W) := hid (hT.keep HbW.out)
  obtain ⟨pt, hpt⟩ : ∃ p, w.heap.size = p := ⟨_, rfl⟩
  have Hpt := hid hpt
  rw [hpt] at hB
  have hlt := hB.lt
  have c0 : W.cell? ⟨pt, 0, none⟩ = some (.string n) := (hB.cell 0).trans rfl
  have c1 : W.cell? ⟨pt, 1, none⟩ = some (.string v) := (hB.cell 1).trans rfl
  have HW := hid hW
  clear hB hT
  go_enter Tryd.func98, Tryd.ntmps98
  go_upto_region 1 with fail
  clear hW hpt
  cases wb with
  | false =>
    have Hr : Hid (res = false) := hid (by rw [Hres.out]; rfl)
    refine wp_region_noPanic ?_
    refine wp_region_held_drew (S := fun w' => w'.cell? ⟨pt, 0, none⟩ = some (.string n) ∧ w'.cell? ⟨pt, 1, none⟩ = some (.string v) ∧ Below W.heap.size W w') (by kernel_rfl) ⟨c0, c1, (Below.refl _ _).drew⟩ (fun hHeld => ?_)
    refine wpAnyH_take (i := 0) (oi := ⟨some 3, _, _, _, _, _⟩) (v := ?_) rfl (by kernel_rfl) (by kernel_rfl) (by kernel_rfl) (fun _ _ _ h => h) (Or.inl ⟨by rfl, ?_⟩) (by assumption) ?_
    rotate_left 1
    · intro w hSw
      go_split_ands
      go_simp
      try with_reducible rfl
    try simp only [Act.put, List.setIfInBounds_toArray, List.set_cons_zero, List.set_cons_succ]
    refine wpAnyH_take (i := 1) (oi := ⟨some 4, _, _, _, _, _⟩) (v := ?_) rfl (by kernel_rfl) (by kernel_rfl) (by kernel_rfl) (fun _ _ _ h => h) (Or.inl ⟨by rfl, ?_⟩) (by assumption) ?_
    rotate_left 1
    · intro w hSw
      go_split_ands
      go_simp
      try with_reducible rfl
    try simp only [Act.put, List.setIfInBounds_toArray, List.set_cons_zero, List.set_cons_succ]
    refine wpAnyH_ready (rs := [2]) (by kernel_rfl) (by simp) ?_
    refine AllReadyH.cons (o := ⟨some 5, _, _, _, _, _⟩) rfl (fun K hK => ?_) AllReadyH.nil
    go_simp
    go_at_call 96
    refine (Hw.out _).mono ?_
    rintro e w2 ⟨rfl, hb⟩
    have hb2 : Below W.heap.size W w2 := (Below.refl W.heap.size W).drew.trans hb
    dsimp only
    refine hK.out _ _ ⟨cell_aft hb2 hlt c0, cell_aft hb2 hlt c1, hb2⟩ (fun _ => ?_)
    clear hK K
    try simp only [Act.put, List.setIfInBounds_toArray, List.set_cons_zero, List.set_cons_succ]
    refine wpAnyH_take (i := 3) (oi := ⟨some 6, _, _, _, _, _⟩) (v := ?_) rfl (by kernel_rfl) (by kernel_rfl) (by kernel_rfl) (fun _ _ _ h => h) (Or.inl ⟨by rfl, ?_⟩) (by assumption) ?_
    rotate_left 1
    · intro w hSw
      go_split_ands
      go_simp
      try with_reducible rfl
    try simp only [Act.put, List.setIfInBounds_toArray, List.set_cons_zero, List.set_cons_succ]
    refine wpAnyH_take (i := 4) (oi := ⟨some 7, _, _, _, _, _⟩) (v := ?_) rfl (by kernel_rfl) (by kernel_rfl) (by kernel_rfl) (fun _ _ _ h => h) (Or.inl ⟨by rfl, ?_⟩) (by assumption) ?_
    rotate_left 1
    · intro w hSw
      go_split_ands
      go_simp
      try with_reducible rfl
    try simp only [Act.put, List.setIfInBounds_toArray, List.set_cons_zero, List.set_cons_succ]
    refine wpAnyH_take (i := 5) (oi := ⟨some 8, _, _, _, _, _⟩) (v := undef) rfl (by kernel_rfl) (by kernel_rfl) (by kernel_rfl) (fun _ _ _ h => h) (Or.inr ⟨by rfl, rfl⟩) (by assumption) ?_
    try simp only [Act.put, List.setIfInBounds_toArray, List.set_cons_zero, List.set_cons_succ]
    refine wpAnyH_take (i := 6) (oi := ⟨some 9, _, _, _, _, _⟩) (v := undef) rfl (by kernel_rfl) (by kernel_rfl) (by kernel_rfl) (fun _ _ _ h => h) (Or.inr ⟨by rfl, rfl⟩) (by assumption) ?_
    try simp only [Act.put, List.setIfInBounds_toArray, List.set_cons_zero, List.set_cons_succ]
    refine wpAnyH_take (i := 7) (oi := ⟨some 10, _, _, _, _, _⟩) (v := undef) rfl (by kernel_rfl) (by kernel_rfl) (by kernel_rfl) (fun _ _ _ h => h) (Or.inr ⟨by rfl, rfl⟩) (by assumption) ?_
    try simp only [Act.put, List.setIfInBounds_toArray, List.set_cons_zero, List.set_cons_succ]
    refine wpAnyH_take (i := 8) (oi := ⟨some 11, _, _, _, _, _⟩) (v := undef) rfl (by kernel_rfl) (by kernel_rfl) (by kernel_rfl) (fun _ _ _ h => h) (Or.inr ⟨by rfl, rfl⟩) (by assumption) ?_
    try simp only [Act.put, List.setIfInBounds_toArray, List.set_cons_zero, List.set_cons_succ]
    refine wpAnyH_take (i := 9) (oi := ⟨some 12, _, _, _, _, _⟩) (v := undef) rfl (by kernel_rfl) (by kernel_rfl) (by kernel_rfl) (fun _ _ _ h => h) (Or.inr ⟨by rfl, rfl⟩) (by assumption) ?_
    try simp only [Act.put, List.setIfInBounds_toArray, List.set_cons_zero, List.set_cons_succ]
    refine wpAnyH_take (i := 10) (oi := ⟨some 13, _, _, _, _, _⟩) (v := undef) rfl (by kernel_rfl) (by kernel_rfl) (by kernel_rfl) (fun _ _ _ h => h) (Or.inr ⟨by rfl, rfl⟩) (by assumption) ?_
    try simp only [Act.put, List.setIfInBounds_toArray, List.set_cons_zero, List.set_cons_succ]
    refine wpAnyH_take (i := 11) (oi := ⟨some 14, _, _, _, _, _⟩) (v := ?_) rfl (by kernel_rfl) (by kernel_rfl) (by kernel_rfl) (fun _ _ _ h => h) (Or.inl ⟨by rfl, ?_⟩) (by assumption) ?_
    rotate_left 1
    · intro w hSw
      go_split_ands
      go_simp
      try with_reducible rfl
    try simp only [Act.put, List.setIfInBounds_toArray, List.set_cons_zero, List.set_cons_succ]
    refine wpAnyH_take (i := 12) (oi := ⟨some 2, _, _, _, _, _⟩) (v := ?_) rfl (by kernel_rfl) (by kernel_rfl) (by kernel_rfl) (fun _ _ _ h => h) (Or.inl ⟨by rfl, ?_⟩) (by assumption) ?_
    rotate_left 1
    · intro w hSw
      go_split_ands
      go_simp
      try with_reducible rfl
    try simp only [Act.put, List.setIfInBounds_toArray, List.set_cons_zero, List.set_cons_succ]
    refine wpAnyH_done (by kernel_rfl) ?_ _
    refine NoPanic.normal ?_
    go_wp2_with fail
    go_ret
    exact ⟨ret_bool (by rw [Hr.out]; rfl), HbW.out.trans (hb2.mono HbW.out.size)⟩
  | true =>
    go_region_held3 (fun w' => w'.cell? ⟨pt, 0, none⟩ = some (.string n) ∧ w'.cell? ⟨pt, 1, none⟩ = some (.string v) ∧ Below W.heap.size W w')
      (first
        | exact ⟨c0, c1, (Below.refl _ _).drew⟩
        | exact ⟨cell_aft hb3 hlt c0, cell_aft hb3 hlt c1, hb3⟩
        | exact ⟨cell_aft hb2 hlt c0, cell_aft hb2 hlt c1, hb2⟩)
      (first
        | (go_at_call 96; refine (Hw.out _).mono ?_; rintro e w2 ⟨rfl, hb⟩; have hb2 : Below W.heap.size W w2 := (Below.refl W.heap.size W).drew.trans hb)
        | (go_at_call 29; refine (HR.out _ (HTW.out.keep hb2)).mono ?_; rintro e w3 ⟨t, rfl, ht, hb⟩; have hb3 : Below W.heap.size W w3 := hb2.trans (hb.mono hb2.size)))
    all_goals
      go_wp2_with fail
      go_ret
      refine ⟨ret_bool ?_, HbW.out.trans (hb3.mono HbW.out.size)⟩
      rw [Hres.out, ← ht.out, Bool.true_and, ByteArray.toList_eq, ByteArray.toList_eq] <;> rfl
set_option maxRecDepth 100000 in
set_option maxHeartbeats 1600000 in
theorem attIdx_any (l : List Att) (A : Option Addr) (cap : Nat) (w : World) (hR : Reads w w.heap.size 2 A l.length (attCells l)) (hl : l.length ≤ 1048576) (hb : ∀ a ∈ l, a.1.length ≤ 1048576 ∧ a.2.length ≤ 1048576) (hT : TabsAt w) :
    Calls Tryd.prog 112 #[.slice A l.length cap, .func (.func 98) #[] #[]] w fun e w' => (∃ r : Int, e = .returned (.int .i64 r) ∧ decide (0 ≤ r) = !l.all pA ∧ -1 ≤ r ∧ r ≤ 1048576) ∧ Below w.heap.size w w' := by
  have HR := hid hR
  have Hb := hid hb
  have HT := hid hT
  have Ht := hid (fun n v W hn hv hT => tagMay1_any n v W hn hv hT)
  obtain ⟨n, hn⟩ : ∃ n, l.length = n := ⟨_, rfl⟩
  have Hn := hid hn
  rw [hn] at hl ⊢
  clear hR hb hT hn
  go_enter Tryd.func112, Tryd.ntmps112
  go_wp2
  go_loopw [8] (fun i wr => ∃ k : Nat, k ≤ n ∧ i = .int .i64 k ∧ Hid ((l.take k).all pA = true) ∧ Below w.heap.size w wr) (fun i _ => n - (intOf i).toNat)
  case atStart => exact ⟨0, Nat.zero_le _, rfl, hid rfl, Below.refl _ _⟩
  case round =>
    obtain ⟨k, hk, rfl, hfl, hbw⟩ := hrel
    by_cases hlt : k < n
    · have hkl : k < l.length := by rw [Hn.out]; exact hlt
      obtain ⟨ad, rfl, hadb, q1, q2⟩ := at_cells (by exact HR.out.below hbw) hkl
      have hbi := Hb.out _ (List.getElem_mem hkl)
      have htk : (l.take (k + 1)).all pA = ((l.take k).all pA && pA l[k]) := by rw [List.take_succ_eq_append_getElem hkl, List.all_append]; simp
      have hbad : pA l[k] = false → l.all pA = false := fun h => by
        rw [Bool.eq_false_iff]
        intro e
        have := List.all_eq_true.1 e _ (List.getElem_mem hkl)
        rw [h] at this; cases this
      obtain ⟨s1, hs1⟩ : ∃ z, bs l[k].1 = z := ⟨_, rfl⟩
      obtain ⟨s2, hs2⟩ : ∃ z, bs l[k].2 = z := ⟨_, rfl⟩
      rw [hs1] at q1
      rw [hs2] at q2
      have Hf := hid (fun W (h : TabsAt W) => Ht.out s1 s2 W (by rw [← len_data, ← hs1]; exact hbi.1) (by rw [← len_data, ← hs2]; exact hbi.2) h)
      have e1 : pA (s1.data.toList, s2.data.toList) = pA l[k] := by rw [← hs1, ← hs2]; rfl
      rw [e1] at Hf
      rw [hfl.out, Bool.true_and] at htk
      obtain ⟨q, hq⟩ : ∃ q, pA l[k] = q := ⟨_, rfl⟩
      rw [hq] at Hf htk hbad
      have HT2 := hid (HT.out.keep hbw)
      have Htk := hid htk
      have HBad := hid hbad
      clear hs1 hs2 hq e1 hbi htk hbad
      cases q with
      | true =>
        go_wp2_with (go_at_call 98; refine (Hf.out _ HT2.out).mono ?_; rintro e' w' ⟨rfl, hb'⟩)
        go_roundw
        case rel => exact ⟨k + 1, by omega, by go_num, hid Htk.out, hbw.trans (hb'.mono hbw.size)⟩
        case measure => simp [intOf]; omega
      | false =>
        go_wp2_with (go_at_call 98; refine (Hf.out _ HT2.out).mono ?_; rintro e' w' ⟨rfl, hb'⟩)
        go_ret
        exact ⟨⟨_, rfl, by rw [HBad.out (by trivial)]; simp, by omega, by omega⟩, hbw.trans (hb'.mono hbw.size)⟩
    · obtain rfl : k = n := by omega
      have hall : Hid (l.all pA = true) := hid (by have := hfl.out; rwa [List.take_of_length_le (by rw [Hn.out]; exact Nat.le_refl _)] at this)
      go_wp2
      go_ret
      exact ⟨⟨_, rfl, by rw [hall.out]; simp, by omega, by omega⟩, hbw⟩
theorem attHas_any (l : List Att) (A : Option Addr) (cap : Nat) (w : World) (hR : Reads w w.heap.size 2 A l.length (attCells l)) (hl : l.length ≤ 1048576) (hb : ∀ a ∈ l, a.1.length ≤ 1048576 ∧ a.2.length ≤ 1048576) (hT : TabsAt w) :
    Calls Tryd.prog 97 #[.slice A l.length cap, .func (.func 98) #[] #[]] w fun e w' => e = .returned (.bool (!l.all pA)) ∧ Below w.heap.size w w' := by
  have HI := hid (attIdx_any l A cap w hR hl hb hT)
  clear hR hb
  generalize l.length = n at HI ⊢
  generalize l.all pA = q at HI ⊢
  cases q
  all_goals
    go_enter Tryd.func97, Tryd.ntmps97
    go_wp2_with fail
    refine HI.out.mono ?_
    rintro e w1 ⟨⟨r, rfl, hr, hr1, hr2⟩, hb⟩
    simp only [Bool.not_false, Bool.not_true, decide_eq_true_eq, decide_eq_false_iff_not] at hr
    go_wp2
    go_ret
    exact ⟨by first | rfl | simp [hr] | (simp; omega), hb⟩
def okA (k : Int) (n x : List UInt8) (ys : List Att) (c : Bool) : Bool := wordL n [] && (headNoDig n && (decide (n.length ≤ 32) && (x.isEmpty && (k == 1 || (!c && ys.isEmpty)))))
theorem head_low (n : List UInt8) (a : UInt8) (r : List UInt8) (hn : n = a :: r) (h : wordL n [] = true) : headNoDig n = decide (57 < a.toNat) := by
  subst hn
  unfold wordL at h
  rw [Bool.and_eq_true, List.all_eq_true] at h
  have hw : wC a = true := by have := h.2 a (by simp); simpa using this
  exact u8_all (fun c => wC c = true → (!(decide (48 ≤ c) && decide (c ≤ 57))) = decide (57 < c.toNat)) (by decide +kernel) a hw
theorem pull {B : Nat} {w W w' : World} (h1 : Below B w W) (h2 : Below W.heap.size W w') (hB : B ≤ W.heap.size) : Below B w w' := h1.trans (h2.mono hB)
set_option maxRecDepth 100000 in
set_option maxHeartbeats 6400000 in
theorem tagMay_any (k : Int) (sn sx : ByteArray) (A : Option Addr) (ys : List Att) (ca : Nat) (c : Bool) (w : World) (hk : k = 1 ∨ k = 2) (hR : Reads w w.heap.size 2 A ys.length (attCells ys)) (hl : ys.length ≤ 1048576) (hn : sn.size ≤ 1048576) (hb : ∀ a ∈ ys, a.1.length ≤ 1048576 ∧ a.2.length ≤ 1048576) (hT : TabsAt w) :
    Calls Tryd.prog 76 #[.agg #[.int .i64 k, .string sn, .string sx, .slice A ys.length ca, .bool c]] w fun e w' => e = .returned (.bool (okA k sn.data.toList sx.data.toList ys c && ys.all pA)) ∧ Below w.heap.size w w' := by
  have HW1 := hid (fun W => wordB_any sn ⟨#[]⟩ W (by omega))
  rw [show (⟨#[]⟩ : ByteArray).data.toList = [] from rfl] at HW1
  obtain ⟨m, hm⟩ : ∃ m, ys.length = m := ⟨_, rfl⟩
  have Hm := hid hm
  have HAt := hid (fun W (hr : Reads W W.heap.size 2 A ys.length (attCells ys)) hT => attHas_any ys A ca W hr hl hb hT)
  rw [hm] at HAt ⊢
  have hme : ((m : Int) == 0) = ys.isEmpty := by
    cases ys with
    | nil => rw [← hm]; rfl
    | cons a r => exact beq_eq_false_iff_ne.2 (by rw [← hm]; simp; omega)
  have hme2 : decide (0 < (m : Int)) = !ys.isEmpty := by
    cases ys with
    | nil => rw [← hm] <;> rfl
    | cons a r =>
      have : (0 : Int) < (m : Int) := by rw [← hm, List.length_cons]; omega
      rw [decide_eq_true this] <;> rfl
  have hxe : sx.toList.isEmpty = sx.data.toList.isEmpty := by rw [ByteArray.toList_eq]
  have hlz := hid (len_data sn)
  obtain ⟨n, hln⟩ : ∃ n, sn.data.toList = n := ⟨_, rfl⟩
  obtain ⟨x, hlx⟩ : ∃ x, sx.data.toList = x := ⟨_, rfl⟩
  have Hln := hid hln
  rw [hln] at HW1 hlz ⊢
  rw [hlx] at hxe ⊢
  obtain ⟨ap, hap⟩ : ∃ b, ys.all pA = b := ⟨_, rfl⟩
  rw [hap] at HAt ⊢
  obtain ⟨res, hres⟩ : ∃ r, (okA k n x ys c && ap) = r := ⟨_, rfl⟩
  rw [hres]
  have Hres := hid hres
  have HR : Hid (Reads w w.heap.size 2 A m (attCells ys)) := hid (by rw [← hm]; exact hR)
  have HTb := hid hT
  have Hk := hid hk
  obtain ⟨W, hW⟩ : ∃ W, w.alloc (.cells #[.int .i64 k, .string sn, .string sx, .slice A m ca, .bool c] 53) = W := ⟨_, rfl⟩
  have hB : Blk W w.heap.size 53 #[.int .i64 k, .string sn, .string sx, .slice A m ca, .bool c] := by rw [← hW]; exact Blk.new w _ _
  have HbW : Hid (Below w.heap.size w W) := hid (by rw [← hW]; exact alloc_below w _)
  obtain ⟨pt, hpt⟩ : ∃ p, w.heap.size = p := ⟨_, rfl⟩
  have Hpt := hid hpt
  rw [hpt] at hB
  have HB := hid hB
  clear hB hR hb hT hk hln hlx hap hres hm
  obtain ⟨b1, hb1⟩ : ∃ b, wordL n [] = b := ⟨_, rfl⟩
  rw [hb1] at HW1
  have Hb1 := hid hb1
  clear hb1
  have CL := hid (fun w2 (h : Below W.heap.size W w2) => (⟨cell_aft h HB.out.lt ((HB.out.cell 0).trans rfl), cell_aft h HB.out.lt ((HB.out.cell 1).trans rfl), cell_aft h HB.out.lt ((HB.out.cell 2).trans rfl), cell_aft h HB.out.lt ((HB.out.cell 3).trans rfl), cell_aft h HB.out.lt ((HB.out.cell 4).trans rfl)⟩ :
    w2.cell? ⟨pt, 0, none⟩ = some (.int .i64 k) ∧ w2.cell? ⟨pt, 1, none⟩ = some (.string sn) ∧ w2.cell? ⟨pt, 2, none⟩ = some (.string sx) ∧ w2.cell? ⟨pt, 3, none⟩ = some (.slice A m ca) ∧ w2.cell? ⟨pt, 4, none⟩ = some (.bool c)))
  have T1 : W.cell? ⟨pt, 1, none⟩ = some (.string sn) := (HB.out.cell 1).trans rfl
  have POST := hid (fun w2 (h : Below W.heap.size W w2) => (pull HbW.out h HbW.out.size : Below w.heap.size w w2))
  cases b1 with
  | false =>
    have Hr : Hid (res = false) := hid (by rw [← Hres.out]; unfold okA; rw [Hb1.out]; rfl)
    go_enter Tryd.func76, Tryd.ntmps76
    go_wp2_with (go_at_call 96; refine (HW1.out _).mono ?_; rintro e2 w2 ⟨rfl, hb2⟩)
    go_ret
    exact ⟨by rw [Hr.out] <;> rfl, POST.out _ hb2⟩
  | true =>
    have hnn : n ≠ [] := fun e => by have := Hb1.out; rw [e] at this; revert this; decide
    have hpos : 0 < sn.size := by rw [← hlz.out]; exact List.length_pos_iff.2 hnn
    have hpi : (0 : Int) < (sn.size : Int) := by omega
    obtain ⟨d, hd', d0, d1, hdn⟩ := byteOf sn 0 hpos
    have Hhead : Hid (headNoDig n = decide (57 < d)) := hid (by
      have e1 := dropAt sn 0 hpos
      rw [List.drop_zero, Hln.out] at e1
      rw [head_low n _ _ e1 Hb1.out]
      have e2 : ((sn[0]'hpos).toNat : Int) = d := hd'
      by_cases h : 57 < d
      · rw [decide_eq_true h, decide_eq_true (by omega)]
      · rw [decide_eq_false h, decide_eq_false (by omega)])
    clear hdn hnn
    by_cases hd9 : d ≤ 57
    · have hd9b : decide (d ≤ 57) = true := decide_eq_true hd9
      have Hr : Hid (res = false) := hid (by rw [← Hres.out]; unfold okA; rw [Hb1.out, Hhead.out, decide_eq_false (by omega)]; rfl)
      go_enter Tryd.func76, Tryd.ntmps76
      go_wp2_with (go_at_call 96; refine (HW1.out _).mono ?_; rintro e2 w2 ⟨rfl, hb2⟩; obtain ⟨g0, g1, g2, g3, g4⟩ := CL.out _ hb2)
      go_ret
      exact ⟨by rw [Hr.out] <;> rfl, POST.out _ hb2⟩
    · have hd9b : decide (d ≤ 57) = false := decide_eq_false hd9
      have Hh : Hid (headNoDig n = true) := hid (by rw [Hhead.out, decide_eq_true (by omega)])
      by_cases h32 : 32 < (sn.size : Int)
      · have h32b : decide (32 < (sn.size : Int)) = true := decide_eq_true h32
        have Hr : Hid (res = false) := hid (by rw [← Hres.out]; unfold okA; rw [Hb1.out, Hh.out, hlz.out, decide_eq_false (by omega)]; rfl)
        go_enter Tryd.func76, Tryd.ntmps76
        go_wp2_with (go_at_call 96; refine (HW1.out _).mono ?_; rintro e2 w2 ⟨rfl, hb2⟩; obtain ⟨g0, g1, g2, g3, g4⟩ := CL.out _ hb2)
        go_ret
        exact ⟨by rw [Hr.out] <;> rfl, POST.out _ hb2⟩
      · have h32b : decide (32 < (sn.size : Int)) = false := decide_eq_false h32
        have Hz : Hid (decide (n.length ≤ 32) = true) := hid (by rw [hlz.out, decide_eq_true (by omega)])
        obtain ⟨b4, hb4⟩ : ∃ b, x.isEmpty = b := ⟨_, rfl⟩
        rw [hb4] at hxe
        have Hb4 := hid hb4
        clear hb4
        cases b4 with
        | false =>
          have Hr : Hid (res = false) := hid (by rw [← Hres.out]; unfold okA; rw [Hb1.out, Hh.out, Hz.out, Hb4.out]; rfl)
          go_enter Tryd.func76, Tryd.ntmps76
          go_wp2_with (go_at_call 96; refine (HW1.out _).mono ?_; rintro e2 w2 ⟨rfl, hb2⟩; obtain ⟨g0, g1, g2, g3, g4⟩ := CL.out _ hb2)
          go_ret
          exact ⟨by rw [Hr.out] <;> rfl, POST.out _ hb2⟩
        | true =>
          have Hrd := hid (fun w2 (h : Below W.heap.size W w2) => ((HR.out.below (POST.out _ h)).more (POST.out _ h).size : Reads w2 w2.heap.size 2 A m (attCells ys)))
          rcases Hk.out with hk1 | hk2
          · subst hk1
            have Hr : Hid (res = ap) := hid (by rw [← Hres.out]; unfold okA; rw [Hb1.out, Hh.out, Hz.out, Hb4.out]; simp)
            go_enter Tryd.func76, Tryd.ntmps76
            go_wp2_with (first
              | (go_at_call 96; refine (HW1.out _).mono ?_; rintro e2 w2 ⟨rfl, hb2⟩; obtain ⟨g0, g1, g2, g3, g4⟩ := CL.out _ hb2)
              | (go_at_call 97; refine (HAt.out _ (Hrd.out _ hb2) (HTb.out.keep (POST.out _ hb2))).mono ?_; rintro e3 w3 ⟨rfl, hb3⟩))
            go_ret
            exact ⟨ret_bool (by rw [Hr.out] <;> simp), POST.out _ (hb2.trans (hb3.mono hb2.size))⟩
          · subst hk2
            cases c with
            | true =>
              have Hr : Hid (res = false) := hid (by rw [← Hres.out]; unfold okA; rw [Hb1.out, Hh.out, Hz.out, Hb4.out]; rfl)
              go_enter Tryd.func76, Tryd.ntmps76
              go_wp2_with (go_at_call 96; refine (HW1.out _).mono ?_; rintro e2 w2 ⟨rfl, hb2⟩; obtain ⟨g0, g1, g2, g3, g4⟩ := CL.out _ hb2)
              go_ret
              exact ⟨by rw [Hr.out] <;> rfl, POST.out _ hb2⟩
            | false =>
              obtain ⟨b5, hb5⟩ : ∃ b, ys.isEmpty = b := ⟨_, rfl⟩
              rw [hb5] at hme hme2
              have Hb5 := hid hb5
              clear hb5
              cases b5 with
              | false =>
                have hmi : (0 : Int) < (m : Int) := of_decide_eq_true (by rw [hme2]; rfl)
                have Hr : Hid (res = false) := hid (by rw [← Hres.out]; unfold okA; rw [Hb1.out, Hh.out, Hz.out, Hb4.out, Hb5.out]; rfl)
                go_enter Tryd.func76, Tryd.ntmps76
                go_wp2_with (go_at_call 96; refine (HW1.out _).mono ?_; rintro e2 w2 ⟨rfl, hb2⟩; obtain ⟨g0, g1, g2, g3, g4⟩ := CL.out _ hb2)
                go_ret
                exact ⟨by rw [Hr.out] <;> rfl, POST.out _ hb2⟩
              | true =>
                have hmi : ¬ (0 : Int) < (m : Int) := of_decide_eq_false (by rw [hme2]; rfl)
                have Hr : Hid (res = ap) := hid (by rw [← Hres.out]; unfold okA; rw [Hb1.out, Hh.out, Hz.out, Hb4.out, Hb5.out]; simp)
                go_enter Tryd.func76, Tryd.ntmps76
                go_wp2_with (first
                  | (go_at_call 96; refine (HW1.out _).mono ?_; rintro e2 w2 ⟨rfl, hb2⟩; obtain ⟨g0, g1, g2, g3, g4⟩ := CL.out _ hb2)
                  | (go_at_call 97; refine (HAt.out _ (Hrd.out _ hb2) (HTb.out.keep (POST.out _ hb2))).mono ?_; rintro e3 w3 ⟨rfl, hb3⟩))
                go_ret
                exact ⟨ret_bool (by rw [Hr.out] <;> simp), POST.out _ (hb2.trans (hb3.mono hb2.size))⟩
end Go.Proofs.YtihgmgpcdodknaaDoor
/- tokens.Check. -/
namespace Go.Proofs.YtihgmgpcdodknaaDoor
open Go.RowKit

def okC (n : List UInt8) (ys : List Att) (c : Bool) : Bool := n.isEmpty && (ys.isEmpty && !c)
def okX (x : List UInt8) : Bool := x.isEmpty || (decide (Lib.index x [45, 45, 62] < 0) && (x.head? != some 45 && (x.head? != some 62 && x.getLast? != some 45)))
theorem chkI_lo (k : Int) (n x : List UInt8) (ys : List Att) (c : Bool) (h1 : ¬ k < 1) (h3 : k < 3) : chkI ⟨k, n, x, ys, c⟩ = if (okA k n x ys c && ys.all pA) then 0 else 9 := by
  unfold chkI chkB okA
  rw [if_neg (by show ¬ (k < 1 ∨ 4 < k); omega)]
  simp only [h3, if_true, Bool.and_assoc]
  rfl
theorem chkI_3 (n x : List UInt8) (ys : List Att) (c : Bool) : chkI ⟨3, n, x, ys, c⟩ = if (okC n ys c && (!x.isEmpty && repairL x == x)) then 0 else 9 := by
  unfold chkI chkB okC
  rw [if_neg (by show ¬ ((3 : Int) < 1 ∨ (4 : Int) < 3); omega)]
  simp [Bool.and_assoc]
theorem chkI_4 (n x : List UInt8) (ys : List Att) (c : Bool) : chkI ⟨4, n, x, ys, c⟩ = if (okC n ys c && okX x) then 0 else 9 := by
  unfold chkI chkB okC okX
  rw [if_neg (by show ¬ ((4 : Int) < 1 ∨ (4 : Int) < 4); omega)]
  simp [Bool.and_assoc]
theorem chkI_out (k : Int) (n x : List UInt8) (ys : List Att) (c : Bool) (h : k < 1 ∨ 4 < k) : chkI ⟨k, n, x, ys, c⟩ = 4 := by
  unfold chkI
  rw [if_pos h]
theorem chkI_mid (k : Int) (n x : List UInt8) (ys : List Att) (c : Bool) (h : k = 3 ∨ k = 4) (hc : okC n ys c = false) : chkI ⟨k, n, x, ys, c⟩ = 9 := by
  rcases h with rfl | rfl
  · rw [chkI_3, hc]; rfl
  · rw [chkI_4, hc]; rfl
theorem pre_one (x : List UInt8) (c : UInt8) : Lib.hasPrefix x [c] = (x.head? == some c) := by
  unfold Lib.hasPrefix
  cases x with
  | nil => rfl
  | cons a r =>
    show (c == a && [].isPrefixOf r) = _
    rw [show ([] : List UInt8).isPrefixOf r = true from by cases r <;> rfl, Bool.and_true, List.head?_cons]
    rw [Bool.eq_iff_iff, beq_iff_eq, beq_iff_eq]
    constructor
    · rintro rfl; rfl
    · intro h; injection h with h; exact h.symm
theorem suf_one (x : List UInt8) (c : UInt8) : Lib.hasSuffix x [c] = (x.getLast? == some c) := by
  unfold Lib.hasSuffix
  rw [Bool.eq_iff_iff, List.isSuffixOf_iff_suffix, beq_iff_eq]
  constructor
  · rintro ⟨t, rfl⟩; simp
  · intro h
    obtain ⟨ys, rfl⟩ := List.getLast?_eq_some_iff.1 h
    exact ⟨ys, rfl⟩
theorem okX_eq (x : List UInt8) : okX x = (!Lib.contains x [45, 45, 62] && (!Lib.hasSuffix x [45] && (!Lib.hasPrefix x [45] && !Lib.hasPrefix x [62]))) := by
  rw [contains_eq, pre_one, pre_one, suf_one]
  unfold okX
  cases x with
  | nil => rfl
  | cons a r =>
    simp only [List.isEmpty_cons, Bool.false_or, Bool.not_not, bne]
    generalize decide (Lib.index (a :: r) [45, 45, 62] < 0) = b0
    generalize ((a :: r).head? == some 45) = b1
    generalize ((a :: r).head? == some 62) = b2
    generalize ((a :: r).getLast? == some 45) = b3
    cases b0 <;> cases b1 <;> cases b2 <;> cases b3 <;> rfl
set_option maxRecDepth 100000 in
set_option maxHeartbeats 12800000 in
theorem checkB_any (t : Tk) (va : Value) (w : World) (ha : AtR w w.heap.size va t.ats) (hl : t.ats.length ≤ 1048576) (hn : t.n.length ≤ 1048576) (hx : t.x.length ≤ 1048576) (hb : ∀ a ∈ t.ats, a.1.length ≤ 1048576 ∧ a.2.length ≤ 1048576) (hT : TabsAt w) (hM : MaxAt w) :
    Calls Tryd.prog 45 #[.agg #[.int .i64 t.k, .string (bs t.n), .string (bs t.x), va, .bool t.c]] w fun e w' => e = .returned (.int .i64 (chkI t)) ∧ Below w.heap.size w w' := by
  obtain ⟨k, n, x, ys, c⟩ := t
  simp only at ha hl hn hx hb ⊢
  obtain ⟨A, ca, rfl, hra⟩ := ha
  obtain ⟨res, hres⟩ : ∃ res, chkI ⟨k, n, x, ys, c⟩ = res := ⟨_, rfl⟩
  rw [hres]
  have Hres := hid hres
  obtain ⟨sn, hsn⟩ : ∃ z, bs n = z := ⟨_, rfl⟩
  obtain ⟨sx, hsx⟩ : ∃ z, bs x = z := ⟨_, rfl⟩
  have hln : sn.data.toList = n := by rw [← hsn, bs_list]
  have hlx : sx.data.toList = x := by rw [← hsx, bs_list]
  have hzn : sn.size = n.length := by rw [← len_data, hln]
  have hzx : sx.size = x.length := by rw [← len_data, hlx]
  rw [hsn, hsx]
  obtain ⟨m, hm⟩ : ∃ m, ys.length = m := ⟨_, rfl⟩
  have HTM := hid (fun W (hk : k = 1 ∨ k = 2) (hr : Reads W W.heap.size 2 A ys.length (attCells ys)) hT => tagMay_any k sn sx A ys ca c W hk hr hl (by omega) hb hT)
  have HR := hid (fun W (h : TabsAt W) => repair_any sx W (by omega) h)
  have HC := hid (fun W (h : MaxAt W) => (h.elim fun mm hm => Tryd.strings_Contains sx ⟨#[45, 45, 62]⟩ mm W (by omega) hm : Calls Tryd.prog 77 #[.string sx, .string ⟨#[45, 45, 62]⟩] W fun e w' => e = .returned (.bool (Lib.contains sx.data.toList [45, 45, 62])) ∧ w' = W))
  have HSf := hid (fun W => (Tryd.strings_HasSuffix sx ⟨#[45]⟩ W (by omega) : Calls Tryd.prog 78 #[.string sx, .string ⟨#[45]⟩] W fun e w' => e = .returned (.bool (Lib.hasSuffix sx.data.toList [45])) ∧ w' = W))
  have HP1 := hid (fun W => (Tryd.strings_HasPrefix sx ⟨#[45]⟩ W : Calls Tryd.prog 73 #[.string sx, .string ⟨#[45]⟩] W fun e w' => e = .returned (.bool (Lib.hasPrefix sx.data.toList [45])) ∧ w' = W))
  have HP2 := hid (fun W => (Tryd.strings_HasPrefix sx ⟨#[62]⟩ W : Calls Tryd.prog 73 #[.string sx, .string ⟨#[62]⟩] W fun e w' => e = .returned (.bool (Lib.hasPrefix sx.data.toList [62])) ∧ w' = W))
  rw [hlx] at HR HC HSf HP1 HP2
  rw [hln, hlx] at HTM
  have Hm := hid hm
  rw [hm] at HTM ⊢
  have HRa : Hid (Reads w w.heap.size 2 A m (attCells ys)) := hid (by rw [← hm]; exact hra)
  have hne : sn.toList.isEmpty = n.isEmpty := by rw [ByteArray.toList_eq, hln]
  have hxe : sx.toList.isEmpty = x.isEmpty := by rw [ByteArray.toList_eq, hlx]
  have Hlx := hid hlx
  have hme2 : decide (0 < (m : Int)) = !ys.isEmpty := by
    cases ys with
    | nil => rw [← hm] <;> rfl
    | cons a r =>
      have : (0 : Int) < (m : Int) := by rw [← hm, List.length_cons]; omega
      rw [decide_eq_true this] <;> rfl
  obtain ⟨W, hW⟩ : ∃ W, w.alloc (.cells #[.int .i64 k, .string sn, .string sx, .slice A m ca, .bool c] 53) = W := ⟨_, rfl⟩
  have hB : Blk W w.heap.size 53 #[.int .i64 k, .string sn, .string sx, .slice A m ca, .bool c] := by rw [← hW]; exact Blk.new w _ _
  have HbW : Hid (Below w.heap.size w W) := hid (by rw [← hW]; exact alloc_below w _)
  have HTW := hid (hT.keep HbW.out)
  have HMW := hid (hM.keep HbW.out)
  have HRW : Hid (Reads W W.heap.size 2 A m (attCells ys)) := hid ((HRa.out.below HbW.out).more HbW.out.size)
  obtain ⟨pt, hpt⟩ : ∃ p, w.heap.size = p := ⟨_, rfl⟩
  have Hpt := hid hpt
  rw [hpt] at hB
  have HB := hid hB
  have T0 : W.cell? ⟨pt, 0, none⟩ = some (.int .i64 k) := (hB.cell 0).trans rfl
  have T1 : W.cell? ⟨pt, 1, none⟩ = some (.string sn) := (hB.cell 1).trans rfl
  have T2 : W.cell? ⟨pt, 2, none⟩ = some (.string sx) := (hB.cell 2).trans rfl
  have T3 : W.cell? ⟨pt, 3, none⟩ = some (.slice A m ca) := (hB.cell 3).trans rfl
  have T4 : W.cell? ⟨pt, 4, none⟩ = some (.bool c) := (hB.cell 4).trans rfl
  have hlt := hB.lt
  have HbP : Hid (Below pt w W) := hid (by rw [← hpt]; exact HbW.out)
  rw [hpt]
  clear hra hb hres hsn hsx hln hlx hzn hzx hm hB hT hM
  have POST := hid (fun w2 (h : Below W.heap.size W w2) => (pull HbP.out h (Nat.le_of_lt hlt) : Below pt w w2))
  by_cases hk1 : k < 1
  · have e1 : decide (k < 1) = true := decide_eq_true hk1
    have Hr : Hid (res = 4) := hid (by rw [← Hres.out, chkI_out _ _ _ _ _ (.inl hk1)])
    go_enter Tryd.func45, Tryd.ntmps45
    go_wp2_with fail
    go_ret
    exact ⟨by rw [Hr.out] <;> rfl, HbP.out⟩
  · have e1 : decide (k < 1) = false := decide_eq_false hk1
    by_cases hk4 : 4 < k
    · have e4 : decide (4 < k) = true := decide_eq_true hk4
      have Hr : Hid (res = 4) := hid (by rw [← Hres.out, chkI_out _ _ _ _ _ (.inr hk4)])
      go_enter Tryd.func45, Tryd.ntmps45
      go_wp2_with fail
      go_ret
      exact ⟨by rw [Hr.out] <;> rfl, HbP.out⟩
    · have e4 : decide (4 < k) = false := decide_eq_false hk4
      by_cases hk3 : k < 3
      · have e3 : decide (k < 3) = true := decide_eq_true hk3
        have Hr : Hid (res = if (okA k n x ys c && ys.all pA) then 0 else 9) := hid (by rw [← Hres.out, chkI_lo _ _ _ _ _ hk1 hk3])
        have HTM2 := hid (HTM.out W (by omega) HRW.out HTW.out)
        generalize (okA k n x ys c && ys.all pA) = q at HTM2 Hr
        clear HTM
        cases q
        all_goals
          go_enter Tryd.func45, Tryd.ntmps45
          go_wp2_with (go_at_call 76; refine HTM2.out.mono ?_; rintro e2 w2 ⟨rfl, hb2⟩)
          go_ret
          exact ⟨by rw [Hr.out] <;> rfl, POST.out _ hb2⟩
      · have e3 : decide (k < 3) = false := decide_eq_false hk3
        have hk34 : k = 3 ∨ k = 4 := by omega
        have Hbad := hid (fun (h : okC n ys c = false) => (by rw [← Hres.out, chkI_mid _ _ _ _ _ hk34 h] : res = 9))
        clear HTM
        obtain ⟨b1, hb1⟩ : ∃ b, n.isEmpty = b := ⟨_, rfl⟩
        rw [hb1] at hne
        have Hb1 := hid hb1
        clear hb1
        cases b1 with
        | false =>
          have Hr := hid (Hbad.out (by unfold okC; rw [Hb1.out]; rfl))
          go_enter Tryd.func45, Tryd.ntmps45
          go_wp2_with fail
          go_ret
          exact ⟨by rw [Hr.out] <;> rfl, HbP.out⟩
        | true =>
          obtain ⟨b2, hb2⟩ : ∃ b, ys.isEmpty = b := ⟨_, rfl⟩
          rw [hb2] at hme2
          have Hb2 := hid hb2
          clear hb2
          cases b2 with
          | false =>
            have hmi : (0 : Int) < (m : Int) := of_decide_eq_true (by rw [hme2]; rfl)
            have Hr := hid (Hbad.out (by unfold okC; rw [Hb1.out, Hb2.out]; rfl))
            go_enter Tryd.func45, Tryd.ntmps45
            go_wp2_with fail
            go_ret
            exact ⟨by rw [Hr.out] <;> rfl, HbP.out⟩
          | true =>
            have hmi : ¬ (0 : Int) < (m : Int) := of_decide_eq_false (by rw [hme2]; rfl)
            cases c with
            | true =>
              have Hr := hid (Hbad.out (by unfold okC; rw [Hb1.out, Hb2.out]; rfl))
              go_enter Tryd.func45, Tryd.ntmps45
              go_wp2_with fail
              go_ret
              exact ⟨by rw [Hr.out] <;> rfl, HbP.out⟩
            | false =>
              rcases hk34 with rfl | rfl
              · have Hr : Hid (res = if (!x.isEmpty && repairL x == x) then 0 else 9) := hid (by rw [← Hres.out, chkI_3]; unfold okC; rw [Hb1.out, Hb2.out]; rfl)
                obtain ⟨b4, hb4⟩ : ∃ b, x.isEmpty = b := ⟨_, rfl⟩
                rw [hb4] at hxe Hr
                clear hb4
                cases b4 with
                | true =>
                  have Hr2 : Hid (res = 9) := hid (by rw [Hr.out]; rfl)
                  go_enter Tryd.func45, Tryd.ntmps45
                  go_upto_region 10 with fail
                  refine wp_region_noPanic ?_
                  refine wp_region_held_drew (S := fun w' => w'.cell? ⟨pt, 2, none⟩ = some (.string sx) ∧ Below W.heap.size W w') (by kernel_rfl) ⟨T2, (Below.refl _ _).drew⟩ (fun hHeld => ?_)
                  refine wpAnyH_take (i := 0) (oi := ⟨some 59, _, _, _, _, _⟩) (v := ?_) rfl (by kernel_rfl) (by kernel_rfl) (by kernel_rfl) (fun _ _ _ h => h) (Or.inl ⟨by rfl, ?_⟩) (by assumption) ?_
                  rotate_left 1
                  · intro w hSw
                    go_split_ands
                    go_simp
                    try with_reducible rfl
                  try simp only [Act.put, List.setIfInBounds_toArray, List.set_cons_zero, List.set_cons_succ]
                  refine wpAnyH_take (i := 1) (oi := ⟨some 60, _, _, _, _, _⟩) (v := ?_) rfl (by kernel_rfl) (by kernel_rfl) (by kernel_rfl) (fun _ _ _ h => h) (Or.inl ⟨by rfl, ?_⟩) (by assumption) ?_
                  rotate_left 1
                  · intro w hSw
                    go_split_ands
                    go_simp
                    try with_reducible rfl
                  try simp only [Act.put, List.setIfInBounds_toArray, List.set_cons_zero, List.set_cons_succ]
                  refine wpAnyH_take (i := 2) (oi := ⟨some 61, _, _, _, _, _⟩) (v := ?_) rfl (by kernel_rfl) (by kernel_rfl) (by kernel_rfl) (fun _ _ _ h => h) (Or.inl ⟨by rfl, ?_⟩) (by assumption) ?_
                  rotate_left 1
                  · intro w hSw
                    go_split_ands
                    go_simp
                    try with_reducible rfl
                  try simp only [Act.put, List.setIfInBounds_toArray, List.set_cons_zero, List.set_cons_succ]
                  refine wpAnyH_take (i := 3) (oi := ⟨some 62, _, _, _, _, _⟩) (v := ?_) rfl (by kernel_rfl) (by kernel_rfl) (by kernel_rfl) (fun _ _ _ h => h) (Or.inl ⟨by rfl, ?_⟩) (by assumption) ?_
                  rotate_left 1
                  · intro w hSw
                    go_split_ands
                    go_simp
                    try with_reducible rfl
                  try simp only [Act.put, List.setIfInBounds_toArray, List.set_cons_zero, List.set_cons_succ]
                  refine wpAnyH_take (i := 4) (oi := ⟨some 63, _, _, _, _, _⟩) (v := undef) rfl (by kernel_rfl) (by kernel_rfl) (by kernel_rfl) (fun _ _ _ h => h) (Or.inr ⟨by rfl, rfl⟩) (by assumption) ?_
                  try simp only [Act.put, List.setIfInBounds_toArray, List.set_cons_zero, List.set_cons_succ]
                  refine wpAnyH_take (i := 5) (oi := ⟨some 64, _, _, _, _, _⟩) (v := undef) rfl (by kernel_rfl) (by kernel_rfl) (by kernel_rfl) (fun _ _ _ h => h) (Or.inr ⟨by rfl, rfl⟩) (by assumption) ?_
                  try simp only [Act.put, List.setIfInBounds_toArray, List.set_cons_zero, List.set_cons_succ]
                  refine wpAnyH_take (i := 6) (oi := ⟨some 65, _, _, _, _, _⟩) (v := undef) rfl (by kernel_rfl) (by kernel_rfl) (by kernel_rfl) (fun _ _ _ h => h) (Or.inr ⟨by rfl, rfl⟩) (by assumption) ?_
                  try simp only [Act.put, List.setIfInBounds_toArray, List.set_cons_zero, List.set_cons_succ]
                  refine wpAnyH_take (i := 7) (oi := ⟨some 66, _, _, _, _, _⟩) (v := undef) rfl (by kernel_rfl) (by kernel_rfl) (by kernel_rfl) (fun _ _ _ h => h) (Or.inr ⟨by rfl, rfl⟩) (by assumption) ?_
                  try simp only [Act.put, List.setIfInBounds_toArray, List.set_cons_zero, List.set_cons_succ]
                  refine wpAnyH_take (i := 8) (oi := ⟨some 67, _, _, _, _, _⟩) (v := undef) rfl (by kernel_rfl) (by kernel_rfl) (by kernel_rfl) (fun _ _ _ h => h) (Or.inr ⟨by rfl, rfl⟩) (by assumption) ?_
                  try simp only [Act.put, List.setIfInBounds_toArray, List.set_cons_zero, List.set_cons_succ]
                  refine wpAnyH_take (i := 9) (oi := ⟨some 68, _, _, _, _, _⟩) (v := undef) rfl (by kernel_rfl) (by kernel_rfl) (by kernel_rfl) (fun _ _ _ h => h) (Or.inr ⟨by rfl, rfl⟩) (by assumption) ?_
                  try simp only [Act.put, List.setIfInBounds_toArray, List.set_cons_zero, List.set_cons_succ]
                  refine wpAnyH_take (i := 10) (oi := ⟨some 69, _, _, _, _, _⟩) (v := ?_) rfl (by kernel_rfl) (by kernel_rfl) (by kernel_rfl) (fun _ _ _ h => h) (Or.inl ⟨by rfl, ?_⟩) (by assumption) ?_
                  rotate_left 1
                  · intro w hSw
                    go_split_ands
                    go_simp
                    try with_reducible rfl
                  try simp only [Act.put, List.setIfInBounds_toArray, List.set_cons_zero, List.set_cons_succ]
                  refine wpAnyH_take (i := 11) (oi := ⟨some 3, _, _, _, _, _⟩) (v := ?_) rfl (by kernel_rfl) (by kernel_rfl) (by kernel_rfl) (fun _ _ _ h => h) (Or.inl ⟨by rfl, ?_⟩) (by assumption) ?_
                  rotate_left 1
                  · intro w hSw
                    go_split_ands
                    go_simp
                    try with_reducible rfl
                  try simp only [Act.put, List.setIfInBounds_toArray, List.set_cons_zero, List.set_cons_succ]
                  refine wpAnyH_done (by kernel_rfl) ?_ _
                  refine NoPanic.normal ?_
                  go_wp2_with fail
                  go_ret
                  exact ⟨by rw [Hr2.out] <;> rfl, POST.out _ (Below.refl _ _).drew⟩
                | false =>
                  go_enter Tryd.func45, Tryd.ntmps45
                  go_upto_region 10 with fail
                  refine wp_region_noPanic ?_
                  refine wp_region_held_drew (S := fun w' => w'.cell? ⟨pt, 2, none⟩ = some (.string sx) ∧ Below W.heap.size W w') (by kernel_rfl) ⟨T2, (Below.refl _ _).drew⟩ (fun hHeld => ?_)
                  refine wpAnyH_take (i := 0) (oi := ⟨some 59, _, _, _, _, _⟩) (v := ?_) rfl (by kernel_rfl) (by kernel_rfl) (by kernel_rfl) (fun _ _ _ h => h) (Or.inl ⟨by rfl, ?_⟩) (by assumption) ?_
                  rotate_left 1
                  · intro w hSw
                    go_split_ands
                    go_simp
                    try with_reducible rfl
                  try simp only [Act.put, List.setIfInBounds_toArray, List.set_cons_zero, List.set_cons_succ]
                  refine wpAnyH_take (i := 1) (oi := ⟨some 60, _, _, _, _, _⟩) (v := ?_) rfl (by kernel_rfl) (by kernel_rfl) (by kernel_rfl) (fun _ _ _ h => h) (Or.inl ⟨by rfl, ?_⟩) (by assumption) ?_
                  rotate_left 1
                  · intro w hSw
                    go_split_ands
                    go_simp
                    try with_reducible rfl
                  try simp only [Act.put, List.setIfInBounds_toArray, List.set_cons_zero, List.set_cons_succ]
                  refine wpAnyH_take (i := 2) (oi := ⟨some 61, _, _, _, _, _⟩) (v := ?_) rfl (by kernel_rfl) (by kernel_rfl) (by kernel_rfl) (fun _ _ _ h => h) (Or.inl ⟨by rfl, ?_⟩) (by assumption) ?_
                  rotate_left 1
                  · intro w hSw
                    go_split_ands
                    go_simp
                    try with_reducible rfl
                  try simp only [Act.put, List.setIfInBounds_toArray, List.set_cons_zero, List.set_cons_succ]
                  refine wpAnyH_take (i := 3) (oi := ⟨some 62, _, _, _, _, _⟩) (v := ?_) rfl (by kernel_rfl) (by kernel_rfl) (by kernel_rfl) (fun _ _ _ h => h) (Or.inl ⟨by rfl, ?_⟩) (by assumption) ?_
                  rotate_left 1
                  · intro w hSw
                    go_split_ands
                    go_simp
                    try with_reducible rfl
                  try simp only [Act.put, List.setIfInBounds_toArray, List.set_cons_zero, List.set_cons_succ]
                  refine wpAnyH_take (i := 4) (oi := ⟨some 63, _, _, _, _, _⟩) (v := ?_) rfl (by kernel_rfl) (by kernel_rfl) (by kernel_rfl) (fun _ _ _ h => h) (Or.inl ⟨by rfl, ?_⟩) (by assumption) ?_
                  rotate_left 1
                  · intro w hSw
                    go_split_ands
                    go_simp
                    try with_reducible rfl
                  try simp only [Act.put, List.setIfInBounds_toArray, List.set_cons_zero, List.set_cons_succ]
                  refine wpAnyH_take (i := 5) (oi := ⟨some 64, _, _, _, _, _⟩) (v := ?_) rfl (by kernel_rfl) (by kernel_rfl) (by kernel_rfl) (fun _ _ _ h => h) (Or.inl ⟨by rfl, ?_⟩) (by assumption) ?_
                  rotate_left 1
                  · intro w hSw
                    go_split_ands
                    go_simp
                    try with_reducible rfl
                  try simp only [Act.put, List.setIfInBounds_toArray, List.set_cons_zero, List.set_cons_succ]
                  refine wpAnyH_take (i := 7) (oi := ⟨some 66, _, _, _, _, _⟩) (v := ?_) rfl (by kernel_rfl) (by kernel_rfl) (by kernel_rfl) (fun _ _ _ h => h) (Or.inl ⟨by rfl, ?_⟩) (by assumption) ?_
                  rotate_left 1
                  · intro w hSw
                    go_split_ands
                    go_simp
                    try with_reducible rfl
                  try simp only [Act.put, List.setIfInBounds_toArray, List.set_cons_zero, List.set_cons_succ]
                  refine wpAnyH_take (i := 8) (oi := ⟨some 67, _, _, _, _, _⟩) (v := ?_) rfl (by kernel_rfl) (by kernel_rfl) (by kernel_rfl) (fun _ _ _ h => h) (Or.inl ⟨by rfl, ?_⟩) (by assumption) ?_
                  rotate_left 1
                  · intro w hSw
                    go_split_ands
                    go_simp
                    try with_reducible rfl
                  try simp only [Act.put, List.setIfInBounds_toArray, List.set_cons_zero, List.set_cons_succ]
                  refine wpAnyH_ready (rs := [6]) (by kernel_rfl) (by simp) ?_
                  refine AllReadyH.cons (o := ⟨some 65, _, _, _, _, _⟩) rfl (fun K hK => ?_) AllReadyH.nil
                  go_simp
                  go_at_call 29
                  refine (HR.out _ (HTW.out.keep (Below.refl _ _).drew)).mono ?_
                  rintro e w2 ⟨t, rfl, ht, hb⟩
                  have hb2 : Below W.heap.size W w2 := (Below.refl W.heap.size W).drew.trans hb
                  dsimp only
                  refine hK.out _ _ ⟨cell_aft hb2 hlt T2, hb2⟩ (fun _ => ?_)
                  clear hK K
                  try simp only [Act.put, List.setIfInBounds_toArray, List.set_cons_zero, List.set_cons_succ]
                  refine wpAnyH_take (i := 9) (oi := ⟨some 68, _, _, _, _, _⟩) (v := ?_) rfl (by kernel_rfl) (by kernel_rfl) (by kernel_rfl) (fun _ _ _ h => h) (Or.inl ⟨by rfl, ?_⟩) (by assumption) ?_
                  rotate_left 1
                  · intro w hSw
                    go_split_ands
                    go_simp
                    try with_reducible rfl
                  try simp only [Act.put, List.setIfInBounds_toArray, List.set_cons_zero, List.set_cons_succ]
                  refine wpAnyH_take (i := 10) (oi := ⟨some 69, _, _, _, _, _⟩) (v := ?_) rfl (by kernel_rfl) (by kernel_rfl) (by kernel_rfl) (fun _ _ _ h => h) (Or.inl ⟨by rfl, ?_⟩) (by assumption) ?_
                  rotate_left 1
                  · intro w hSw
                    go_split_ands
                    go_simp
                    try with_reducible rfl
                  try simp only [Act.put, List.setIfInBounds_toArray, List.set_cons_zero, List.set_cons_succ]
                  refine wpAnyH_take (i := 11) (oi := ⟨some 3, _, _, _, _, _⟩) (v := ?_) rfl (by kernel_rfl) (by kernel_rfl) (by kernel_rfl) (fun _ _ _ h => h) (Or.inl ⟨by rfl, ?_⟩) (by assumption) ?_
                  rotate_left 1
                  · intro w hSw
                    go_split_ands
                    go_simp
                    try with_reducible rfl
                  try simp only [Act.put, List.setIfInBounds_toArray, List.set_cons_zero, List.set_cons_succ]
                  refine wpAnyH_done (by kernel_rfl) ?_ _
                  refine NoPanic.normal ?_
                  have Hq : Hid (res = if (t.toList == sx.toList) then 0 else 9) := hid (by rw [Hr.out, ← ht.out, ← Hlx.out, ByteArray.toList_eq, ByteArray.toList_eq]; rfl)
                  clear Hr
                  generalize (t.toList == sx.toList) = q at Hq ⊢
                  cases q
                  all_goals
                    go_wp2_with fail
                    go_ret
                    exact ⟨by rw [Hq.out] <;> rfl, POST.out _ hb2⟩
              · have Hr : Hid (res = if (!Lib.contains x [45, 45, 62] && (!Lib.hasSuffix x [45] && (!Lib.hasPrefix x [45] && !Lib.hasPrefix x [62]))) then 0 else 9) := hid (by rw [← Hres.out, chkI_4, ← okX_eq]; unfold okC; rw [Hb1.out, Hb2.out]; rfl)
                generalize Lib.contains x [45, 45, 62] = q1 at HC Hr
                generalize Lib.hasSuffix x [45] = q2 at HSf Hr
                generalize Lib.hasPrefix x [45] = q3 at HP1 Hr
                generalize Lib.hasPrefix x [62] = q4 at HP2 Hr
                go_enter Tryd.func45, Tryd.ntmps45
                go_wp2_with (first
                  | (go_at_call 77; refine (HC.out _ HMW.out).mono ?_; rintro e2 w2 ⟨rfl, hw⟩; obtain rfl := hw)
                  | (go_at_call 78; refine (HSf.out _).mono ?_; rintro e2 w2 ⟨rfl, hw⟩; obtain rfl := hw)
                  | (go_at_call 73; (with_reducible refine (HP1.out _).mono ?_); rintro e2 w2 ⟨rfl, hw⟩; obtain rfl := hw)
                  | (go_at_call 73; (with_reducible refine (HP2.out _).mono ?_); rintro e2 w2 ⟨rfl, hw⟩; obtain rfl := hw))
                all_goals
                  go_ret
                  exact ⟨by rw [Hr.out]; simp [*], HbP.out⟩
end Go.Proofs.YtihgmgpcdodknaaDoor
