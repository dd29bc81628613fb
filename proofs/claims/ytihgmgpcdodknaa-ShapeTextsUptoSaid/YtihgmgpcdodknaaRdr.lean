import Derived.Test.YtihgmgpcdodknaaRd0
import Derived.Test.YtihgmgpcdodknaaRyy
import Derived.Test.YtihgmgpcdodknaaRef1
import Derived.Test.YtihgmgpcdodknaaOct2
import Derived.Test.YtihgmgpcdodknaaTokP
import Derived.Test.YtihgmgpcdodknaaTokM
import Derived.Deep.Cut
import Derived.BigRegion
import Derived.Deep.CutRange
import Derived.Deep.RegionHeld3
import Derived.Deep.LoopGhost
import Derived.Deep.CutBlock
set_option linter.unusedVariables false
/- The reference's octets for its reader: Letter, Blank, Starts, low. -/
namespace Go.Proofs.Ytihgmgpcdodknaa
open Go.RowKit

theorem refLetter_int (n : Int) (h0 : 0 ≤ n) (h1 : n ≤ 255) : isLetter (bOf n) = ((decide (97 ≤ n) && decide (n ≤ 122)) || (decide (65 ≤ n) && decide (n ≤ 90))) :=
  bytes_all (p := fun c n => isLetter c = ((decide (97 ≤ n) && decide (n ≤ 122)) || (decide (65 ≤ n) && decide (n ≤ 90)))) (by decide +kernel) n h0 h1
theorem refBlank_int (n : Int) (h0 : 0 ≤ n) (h1 : n ≤ 255) : isBlank (bOf n) = (n == 32 || n == 9 || n == 10 || n == 12 || n == 13) :=
  bytes_all (p := fun c n => isBlank c = (n == 32 || n == 9 || n == 10 || n == 12 || n == 13)) (by decide +kernel) n h0 h1
set_option maxHeartbeats 400000 in
theorem refLetter_any (n : Int) (h0 : 0 ≤ n) (h1 : n ≤ 255) (w : World) :
    Calls Try.prog 52 #[.int .u8 n] w fun e w' => e = .returned (.bool (isLetter (bOf n))) ∧ w = w' := by
  have hl := hid (refLetter_int n h0 h1)
  go_enter Try.func52, Try.ntmps52
  go_wp2
  all_goals go_ret
  all_goals (refine ⟨ret_bool ?_, rfl⟩; rw [hl.out]; first | (simp [*]; done) | (rw [Bool.eq_iff_iff]; simp [*]; done) | (rw [Bool.eq_iff_iff]; simp [*]; omega) | (rw [Bool.eq_iff_iff]; simp; done) | (rw [Bool.eq_iff_iff]; simp; omega))
set_option maxHeartbeats 400000 in
theorem refBlank_any (n : Int) (h0 : 0 ≤ n) (h1 : n ≤ 255) (w : World) :
    Calls Try.prog 48 #[.int .u8 n] w fun e w' => e = .returned (.bool (isBlank (bOf n))) ∧ w = w' := by
  have hl := hid (refBlank_int n h0 h1)
  go_enter Try.func48, Try.ntmps48
  go_wp2
  all_goals go_ret
  all_goals subst_vars
  all_goals (refine ⟨ret_bool ?_, rfl⟩; first | (rw [hl.out]; done) | (rw [hl.out]; simp [*]; done) | (rw [hl.out, Bool.eq_iff_iff]; simp [*]; done) | (rw [hl.out, Bool.eq_iff_iff]; simp [*]; omega))

theorem starts_low (l p : List UInt8) : startsB l p = begL (low p) (low l) := by
  have hl : (low p).length = p.length := low_length p
  by_cases h : p.length ≤ l.length
  · rw [prefix_take _ _ (by rw [low_length, low_length]; exact h), hl]
    unfold startsB
    rw [decide_eq_true h, Bool.true_and, show (low l).take p.length = low (l.take p.length) from by simp [low, List.map_take]]
    by_cases e : low (l.take p.length) = low p
    · rw [e]; simp
    · rw [decide_eq_false e]; simpa using e
  · rw [prefix_long _ _ (by rw [low_length, low_length]; exact h)]
    unfold startsB
    rw [decide_eq_false h, Bool.false_and]
set_option maxHeartbeats 800000 in
theorem refStarts_any (s p : ByteArray) (w : World) (hs : s.size ≤ 1099511627775) (hp : p.size ≤ 1099511627775) :
    Calls Try.prog 53 #[.string s, .string p] w fun e w' => e = .returned (.bool (startsB s.data.toList p.data.toList)) ∧ Below w.heap.size w w' := by
  have Hr := hid (starts_low s.data.toList p.data.toList)
  rw [Hr.out]
  have H1 := hid (fun W => refLower_any p W hp)
  have H2 := hid (fun W => refLower_any s W hs)
  have H3 := hid (fun (a b : ByteArray) W (ha : a.size ≤ 1099511627776) (hb : b.size ≤ 1099511627776) => (begins_any a b W ha hb).mono fun e w' h => (⟨h.1, h.2.symm⟩ : e = _ ∧ w' = W))
  have Hsz := hid (fun (a x : ByteArray) (h : a.data.toList = low x.data.toList) => (by rw [← len_data, h, low_length, len_data] : a.size = x.size))
  obtain ⟨x, hx⟩ : ∃ x, begL (low p.data.toList) (low s.data.toList) = x := ⟨_, rfl⟩
  have Hx := hid hx
  rw [hx]
  clear hx
  go_enter Try.func53, Try.ntmps53
  go_wp2_with fail
  refine (H1.out _).mono ?_
  rintro e1 w1 ⟨a, rfl, ha, hb1⟩
  go_wp2_with fail
  refine (H2.out _).mono ?_
  rintro e2 w2 ⟨b, rfl, hbb, hb2⟩
  have h3 := H3.out a b w2 (by rw [Hsz.out a p ha.out]; omega) (by rw [Hsz.out b s hbb.out]; omega)
  rw [ha.out, hbb.out, Hx.out] at h3
  have HH3 := hid h3
  clear h3
  go_wp2_with fail
  refine HH3.out.mono ?_
  rintro e3 w3 ⟨rfl, hw3⟩
  obtain rfl := hw3
  go_wp2
  go_ret
  exact ⟨rfl, hb1.trans (hb2.mono hb1.size)⟩
theorem one_back (w : World) (n : Int) (h0 : 0 ≤ n) (h1 : n ≤ 255) : (convert 50 9 (.slice (some ⟨w.heap.size, 0, none⟩) 1 1)).run Try.prog (w.alloc (.cells #[.int .u8 n] 5)) = .ok (.string ⟨#[bOf n]⟩) (w.alloc (.cells #[.int .u8 n] 5)) :=
  (one_new w n 5 h0 h1).back 1 50 9 5 Try.underlying50 Try.underlying5 Try.underlying9 1 rfl
set_option maxHeartbeats 800000 in
theorem low1_any (n : Int) (h0 : 0 ≤ n) (h1 : n ≤ 255) (w : World) :
    Calls Try.prog 50 #[.int .u8 n] w (RStr w [lowB (bOf n)]) := by
  have Hl := hid (fun W => refLower_any ⟨#[bOf n]⟩ W (by show 1 ≤ _; omega))
  have hcv := one_back w n h0 h1
  go_enter Try.func50, Try.ntmps50
  go_wp2_with fail
  refine (Hl.out _).mono ?_
  rintro e1 w1 ⟨a, rfl, ha, hb1⟩
  go_wp2
  go_ret
  exact ⟨_, rfl, ha, ((Below.refl _ _).alloc (Nat.le_refl _) _).trans (hb1.mono (by simp))⟩
end Go.Proofs.Ytihgmgpcdodknaa
/- (*muslinref12.Reader).put. -/
namespace Go.Proofs.Ytihgmgpcdodknaa
open Go.RowKit

set_option maxRecDepth 100000 in
set_option maxHeartbeats 3200000 in
theorem put_any (base R : Nat) (s : ByteArray) (m : Mc) (b : Nat) (w : World) (hb : Mb b m) (hb2 : b ≤ 400000) (h : Rf w base R s m) :
    Calls Try.prog 51 #[.pointer (some ⟨R, 0, none⟩)] w fun e w' => e = .returned (.tuple #[]) ∧ Rf w' base R s (mPut m) ∧ Below base w w' := by
  obtain ⟨VO, VT, VA, B, h⟩ := h
  obtain ⟨n, hn⟩ : ∃ n, m.tag.ats.length = n := ⟨_, rfl⟩
  have Hn := hid hn
  obtain ⟨An, cn, rfl⟩ := OwnA.shapeV h.ats hn
  have hnb : n ≤ 400000 := by have := hb.ats; omega
  obtain ⟨bx, hbx⟩ : ∃ bx, bs m.a.1 = bx := ⟨_, rfl⟩
  obtain ⟨av, hav⟩ : ∃ av, bs m.a.2 = av := ⟨_, rfl⟩
  have havs : av.size ≤ 400000 := by rw [← hav]; show m.a.2.length ≤ _; have := hb.a2; omega
  have c10 : w.cell? ⟨R, 10, none⟩ = some (.string av) := h.cell 10 (by rw [← hav]; rfl)
  have Hd := hid (fun W => refDecode06_any av W (by omega))
  have hdl : decL av.data.toList = decL m.a.2 := by rw [← hav]; rfl
  rw [hdl] at Hd
  have H := hid h
  have Hbx := hid hbx
  have hRlt := h.lt
  clear h hbx hav hdl hn hb
  go_enter Try.func51, Try.ntmps51
  go_wp2_with fail
  refine (Hd.out _).mono ?_
  rintro e w1 ⟨y, rfl, hy, hb1⟩
  have H1 := hid (H.out.keep hb1)
  have d10 := H1.out.cell 10 rfl
  have f10 := H1.out.fz 10
  have H2 := hid (H1.out.set 10 (.string y))
  go_wp2_with fail
  obtain ⟨w3, hw3⟩ : ∃ w3, w1.setCell ⟨R, 10, none⟩ (.string y) = w3 := ⟨_, rfl⟩
  have Hb3 := hid (H1.out.bset (H.out.bkeep (Below.refl base _) hb1) 10 (.string y))
  rw [hw3] at H2 Hb3 ⊢
  clear hw3 d10 f10 H1 c10
  have hown : w3.ownsRow B 39 2 (.slice An n cn) n (attCells m.tag.ats) := by
    have h := H2.out.ats
    unfold OwnA at h
    rw [Hn.out] at h
    exact h
  have a0 : w3.cell? ⟨R, 9, none⟩ = some (.string bx) := H2.out.cell 9 (by rw [← Hbx.out]; rfl)
  have a1 : w3.cell? ⟨R, 10, none⟩ = some (.string y) := H2.out.cell 10 rfl
  have t3 : w3.cell? ⟨R, 7, none⟩ = some (.slice An n cn) := H2.out.cell 7 rfl
  have ft := H2.out.fz 7
  have hneT := own_blk_ne H2.out.ats H2.out.blk (by decide)
  have hTlt : R < w3.heap.size := H2.out.lt
  have hBs := H2.out.hs
  obtain ⟨i0, hi, hz0, hz1, hz2⟩ := info_parts info_at
  have t3a : (w3.alloc (.cells #[.string bx, .string y] 39)).cell? ⟨R, 7, none⟩ = some (.slice An n cn) := (World.cell?_alloc_lt _ _ _ hTlt).trans t3
  refine wp_region_noPanic ?_
  go_region_law
    ((refine step_append_lies _ (by rfl) _ _ _ (by rfl) B 39 i0 _ 2 32 Try.underlying34 hi hz0 hz1 hz2 rfl (by omega) (.slice An n cn) n (attCells m.tag.ats) (by rfl) ((hown.alloc _).drew)
        ⟨w3.heap.size, 0, none⟩ 1 1 [.string bx, .string y] (by rfl) (by rfl) (World.news_of_block (cs := #[.string bx, .string y]) (t := 39) (fr := (0, 0)) (heap_alloc_new w3 _)) (by simp [Value.oneCell'])
        (by omega) (by unfold maxLen; omega) (by omega) (by simp; omega) (w3.heap.size + 1) (by simp) ?_; intro gg cap w4 hown3 hgrow hat hlt3
      have e0 : w4.cell? ⟨R, 7, none⟩ = some (.slice An n cn) := ((hgrow.cell_far _ (by simp; omega) (Ne.symm hneT)).trans ((World.cell?_alloc_lt _ _ _ hTlt).trans t3))
      have e1 : w4.frozen? ⟨R, 7, none⟩ = false := (hgrow.frozen_far _ (by simp; omega) (Ne.symm hneT)).trans (((alloc_below _ _).frozen (p := ⟨R, 7, none⟩) hTlt).trans ft)))
  all_goals
    refine NoPanic.normal ?_
    have ho3 : OwnA w4 B (.slice (some ⟨gg, 0, none⟩) (n + 1) cap) (m.tag.ats ++ [(m.a.1, decL m.a.2)]) := by
      unfold OwnA
      rw [attCells_snoc, List.length_append, Hn.out, Hbx.out, ← bs_of hy.out]
      exact hown3
    have H4 := hid (((H2.out.alloc (.cells #[.string bx, .string y] 39)).drew).growA hgrow ho3)
    have Hb4 := hid (below_grown (((Hb3.out.alloc H2.out.size (.cells #[.string bx, .string y] 39))).drew) (H2.out.alloc (.cells #[.string bx, .string y] 39)).drew.size (fun g hg => Nat.le_trans H2.out.hB ((H2.out.alloc (.cells #[.string bx, .string y] 39)).drew.ats.lo_ g hg)) hgrow)
    have H5 := hid (H4.out.set 7 (.slice (some ⟨gg, 0, none⟩) (n + 1) cap))
    have Hb5 := hid (H4.out.bset Hb4.out 7 (.slice (some ⟨gg, 0, none⟩) (n + 1) cap))
    clear ho3 hown3 hgrow hat a0 a1 t3 t3a ft hlt3 hown hi hz0 hz1 hz2
    have k9 := H4.out.fz 9
    have k10 := H4.out.fz 10
    have m9 : w4.cell? ⟨R, 9, none⟩ = some (.string bx) := H4.out.cell 9 (by rw [← Hbx.out]; rfl)
    have m10 : w4.cell? ⟨R, 10, none⟩ = some (.string y) := H4.out.cell 10 rfl
    go_wp2
    go_end0
    have H7 := hid (((H5.out.set 9 (.string ⟨#[]⟩)).set 10 (.string ⟨#[]⟩)))
    exact ⟨rfl, ⟨_, _, _, _, H7.out⟩, ((H5.out.set 9 (.string ⟨#[]⟩)).bset (H5.out.bset Hb5.out 9 (.string ⟨#[]⟩)) 10 (.string ⟨#[]⟩))⟩
end Go.Proofs.Ytihgmgpcdodknaa
/- muslinref06.Element. -/
namespace Go.Proofs.Ytihgmgpcdodknaa
open Go.RowKit

def sNames : List (List UInt8) := [sTitle, sArea, sStyle, sScript] ++ sBarred
def vNames : Array Value := (sNames.map fun l => Value.string ⟨l.toArray⟩).toArray
set_option maxHeartbeats 800000 in
theorem elements_any (w : World) : Calls Try.prog 68 #[] w fun e w' => e = .returned (.slice (some ⟨w.heap.size, 0, none⟩) 10 10) ∧ w' = w.alloc (.cells vNames 9) := by
  go_enter Try.func68, Try.ntmps68
  go_wp2
  go_ret
  exact ⟨rfl, rfl⟩
theorem elemK_no (n : List UInt8) (h : ∀ x ∈ sNames, n ≠ x) : elemK n = 0 := by
  have hm : ∀ x, x ∈ sNames → n ≠ x := h
  unfold elemK
  rw [if_neg (by rintro (e | e) <;> exact hm _ (by decide) e), if_neg (hm _ (by decide)), if_neg (hm _ (by decide)), if_neg]
  intro e
  exact hm n (List.mem_append_right _ e) rfl
theorem names_step (n : List UInt8) (k : Nat) (x : List UInt8) (hx : sNames[k]? = some x) (h : ∀ y ∈ sNames.take k, n ≠ y) (hn : ¬ x = n) : ∀ y ∈ sNames.take (k + 1), n ≠ y := by
  intro y hy
  obtain ⟨hk, hx⟩ := List.getElem?_eq_some_iff.1 hx
  rw [List.take_succ_eq_append_getElem hk, hx, List.mem_append] at hy
  rcases hy with h1 | h1
  · exact h y h1
  · simp only [List.mem_cons, List.not_mem_nil, or_false] at h1
    subst h1
    exact fun e => hn e.symm
set_option maxRecDepth 100000 in
set_option maxHeartbeats 3200000 in
theorem refElem_any (s : ByteArray) (w : World) :
    Calls Try.prog 47 #[.string s] w fun e w' => e = .returned (.int .i64 (elemK s.data.toList)) ∧ Below w.heap.size w w' := by
  have He := hid (fun W => elements_any W)
  obtain ⟨l, hl⟩ : ∃ l, s.data.toList = l := ⟨_, rfl⟩
  have e1 : ∀ x : List UInt8, (x == s.toList) = decide (x = l) := by
    intro x
    rw [ByteArray.toList_eq, hl]
    by_cases h : x = l
    · rw [decide_eq_true h, h]; simp
    · rw [decide_eq_false h]; simpa using h
  obtain ⟨W1, hW1⟩ : ∃ W1, w.alloc (.cells vNames 9) = W1 := ⟨_, rfl⟩
  obtain ⟨L, hL⟩ : ∃ L, w.heap.size = L := ⟨_, rfl⟩
  have hB : Blk W1 L 9 vNames := by rw [← hW1, ← hL]; exact Blk.new w _ _
  have HW : Hid (Below w.heap.size w W1) := hid (by rw [← hW1]; exact (Below.refl _ _).alloc (Nat.le_refl _) _)
  have Hr : Hid (∀ x k, x = l → elemK x = k → elemK s.data.toList = k) := hid (fun x k h1 h2 => by rw [hl, ← h1, h2])
  have Hno : Hid ((∀ x ∈ sNames, l ≠ x) → elemK s.data.toList = 0) := hid (fun h => by rw [hl]; exact elemK_no l h)
  have c0 : W1.cell? ⟨L, 0, none⟩ = some (.string ⟨#[116, 105, 116, 108, 101]⟩) := (hB.cell 0).trans rfl
  have c1 : W1.cell? ⟨L, 1, none⟩ = some (.string ⟨#[116, 101, 120, 116, 97, 114, 101, 97]⟩) := (hB.cell 1).trans rfl
  have c2 : W1.cell? ⟨L, 2, none⟩ = some (.string ⟨#[115, 116, 121, 108, 101]⟩) := (hB.cell 2).trans rfl
  have c3 : W1.cell? ⟨L, 3, none⟩ = some (.string ⟨#[115, 99, 114, 105, 112, 116]⟩) := (hB.cell 3).trans rfl
  have c4 : W1.cell? ⟨L, 4, none⟩ = some (.string ⟨#[112, 108, 97, 105, 110, 116, 101, 120, 116]⟩) := (hB.cell 4).trans rfl
  have c5 : W1.cell? ⟨L, 5, none⟩ = some (.string ⟨#[120, 109, 112]⟩) := (hB.cell 5).trans rfl
  have c6 : W1.cell? ⟨L, 6, none⟩ = some (.string ⟨#[105, 102, 114, 97, 109, 101]⟩) := (hB.cell 6).trans rfl
  have c7 : W1.cell? ⟨L, 7, none⟩ = some (.string ⟨#[110, 111, 101, 109, 98, 101, 100]⟩) := (hB.cell 7).trans rfl
  have c8 : W1.cell? ⟨L, 8, none⟩ = some (.string ⟨#[110, 111, 102, 114, 97, 109, 101, 115]⟩) := (hB.cell 8).trans rfl
  have c9 : W1.cell? ⟨L, 9, none⟩ = some (.string ⟨#[110, 111, 115, 99, 114, 105, 112, 116]⟩) := (hB.cell 9).trans rfl
  clear hB hl
  have He1 := He.out w
  rw [hW1, hL] at He1
  have HE := hid He1
  clear He1 He hW1 hL
  go_enter Try.func47, Try.ntmps47
  go_wp2_with fail
  refine HE.out.mono ?_
  rintro e w1 ⟨rfl, hw⟩
  obtain rfl := hw
  go_wp2
  go_loop [4] (fun i => ∃ k : Nat, k ≤ 10 ∧ i = .int .i64 k ∧ Hid (∀ x ∈ sNames.take k, l ≠ x)) (fun i => 10 - (intOf i).toNat)
  case atStart => exact ⟨0, Nat.zero_le _, rfl, hid (by simp)⟩
  case round =>
    obtain ⟨k, hk, rfl, hS⟩ := hrel
    obtain h | h | h | h | h | h | h | h | h | h | h : k = 0 ∨ k = 1 ∨ k = 2 ∨ k = 3 ∨ k = 4 ∨ k = 5 ∨ k = 6 ∨ k = 7 ∨ k = 8 ∨ k = 9 ∨ k = 10 := by omega
    all_goals subst h
    case inr.inr.inr.inr.inr.inr.inr.inr.inr.inr =>
      go_wp2
      go_ret
      exact ⟨ret_int (Hno.out hS.out).symm, HW.out⟩
    all_goals
      go_wp2
      · go_ret
        refine ⟨ret_int (Hr.out _ _ (by first | assumption | (symm; assumption) | simp_all) (by decide)).symm, HW.out⟩
      · go_round
        case rel => exact ⟨_, by decide, rfl, hid (names_step _ _ _ rfl hS.out (by first | assumption | simp_all))⟩
        case measure => simp [intOf]
end Go.Proofs.Ytihgmgpcdodknaa
/- (*muslinref12.Reader).text. -/
namespace Go.Proofs.Ytihgmgpcdodknaa
open Go.RowKit

/-- append(tokens, t) where t lies in a block of its own -/
theorem wpl_tok {ops : Array Oper} {rest : List Oper} {o : Oper} {a : Act} {Q : Exit → Act → World → Prop} (hgd : o.guard = none) (s x : Operand)
    (ho : o.op = .call { callee := .builtin .append, args := #[s, x], argTypes := #[22, 22] })
    (base : Nat) (v : Value) (n : Nat) (cs : List Value) (k : Int) (tn tx : ByteArray) (va : Value) (c : Bool) (W : World) (hown : (W.alloc (.cells #[.int .i64 k, .string tn, .string tx, va, .bool c] 36)).ownsRow base 36 5 v n cs) (hs : a.eval s = v) (hx : a.eval x = .slice (some ⟨W.heap.size, 0, none⟩) 1 1)
    (hva : va.oneCell' = true) (hn : n ≤ 400000) (hbase : base ≤ W.heap.size)
    (h : ∀ v' w', w'.ownsRow base 36 5 v' (n + 1) (cs ++ [.int .i64 k, .string tn, .string tx, va, .bool c]) → (W.alloc (.cells #[.int .i64 k, .string tn, .string tx, va, .bool c] 36)).grownBy w' v.ownBlock → wpList Try.prog ops Q rest (a.put o.dst v') w') :
    wpList Try.prog ops Q (o :: rest) a (W.alloc (.cells #[.int .i64 k, .string tn, .string tx, va, .bool c] 36)) := by
  obtain ⟨i0, hi, hz0, hz1, hz2⟩ := info_parts info_tk
  refine wpList_append_own (P := Try.prog) _ hgd s x 22 ho base 36 i0 _ 5 72 Try.underlying22 hi hz0 hz1 hz2 rfl (by omega) v n cs hs hown
    ⟨W.heap.size, 0, none⟩ 1 1 [.int .i64 k, .string tn, .string tx, va, .bool c] hx (by rfl) (World.news_of_block (cs := #[.int .i64 k, .string tn, .string tx, va, .bool c]) (t := 36) (fr := (0, 0)) (heap_alloc_new W _)) (by intro u hu; simp only [List.mem_cons, List.not_mem_nil, or_false] at hu; rcases hu with rfl | rfl | rfl | rfl | rfl <;> first | rfl | exact hva)
    (by unfold maxLen; omega) (by omega) (by simp; omega) ?_
  intro v' w' h1 h2 _
  exact h v' w' h1 h2
theorem own_shape {w : World} {base : Nat} {e : TypeId} {size n : Nat} {v : Value} {xs : List Value} (h : w.ownsRow base e size v n xs) : ∃ A c, v = .slice A n c := by
  rcases h.2 with ⟨rfl, rfl⟩ | ⟨g, cap, cur, rfl, _⟩
  · exact ⟨none, 0, rfl⟩
  · exact ⟨_, _, rfl⟩
theorem mText_nil {m : Mc} {d : Bool} (h : (if d = true then decL m.text else m.text) = []) : mText m d = { m with text := [] } := by
  unfold mText
  rw [if_pos h]
theorem mText_cons {m : Mc} {d : Bool} (h : ¬ (if d = true then decL m.text else m.text) = []) : mText m d = { m with out := m.out ++ [⟨3, [], if d = true then decL m.text else m.text, [], false⟩], text := [] } := by
  unfold mText
  rw [if_neg h]
theorem Rf.rg {w : World} {base R : Nat} {s : ByteArray} {m : Mc} {VO VT VA : Value} {B : Nat} (h : Rg w base R (rcs s m VO VT VA) VO VT VA B m.out m.text m.tag.ats) : Rf w base R s m := ⟨VO, VT, VA, B, h⟩

set_option maxRecDepth 100000 in
set_option maxHeartbeats 3200000 in
theorem text_any (base R : Nat) (s : ByteArray) (m : Mc) (d : Bool) (b : Nat) (w : World) (hb : Mb b m) (hb2 : b ≤ 400000) (h : Rf w base R s m) :
    Calls Try.prog 32 #[.pointer (some ⟨R, 0, none⟩), .bool d] w fun e w' => e = .returned (.tuple #[]) ∧ Rf w' base R s (mText m d) ∧ Below base w w' := by
  obtain ⟨VO, VT, VA, B, h⟩ := h
  obtain ⟨n, hn⟩ : ∃ n, m.out.length = n := ⟨_, rfl⟩
  obtain ⟨An, cn, rfl⟩ := OwnL.shape h.out hn
  have hnb : n ≤ 400000 := by have := hb.out; omega
  obtain ⟨tx, htx⟩ : ∃ tx : ByteArray, (⟨m.text.toArray⟩ : ByteArray) = tx := ⟨_, rfl⟩
  have htl : tx.data.toList = m.text := by rw [← htx]
  have hts : tx.size ≤ 400000 := by rw [← len_data, htl]; have := hb.text; omega
  have hcv := h.text.back
  rw [htx] at hcv
  have c3 : w.cell? ⟨R, 3, none⟩ = some VT := h.cell 3 rfl
  have Hd := hid (fun W => refDecode06_any tx W (by omega))
  rw [htl] at Hd
  have H := hid h
  have Htl := hid htl
  have Hn := hid hn
  clear h htx htl hn hb
  go_enter Try.func32, Try.ntmps32
  go_upto_if 10 with fail
  go_cut [4] from 5 (fun v4 wx => ∃ y : ByteArray, v4 = .string y ∧ Hid (y.data.toList = if d = true then decL m.text else m.text) ∧ Hid (Below w.heap.size w wx))
  case first =>
    cases d with
    | true =>
      go_wp2_with fail
      refine (Hd.out _).mono ?_
      rintro e w1 ⟨y, rfl, hy, hb1⟩
      go_wp2
      go_meet
      case rel => exact ⟨y, rfl, hid (by rw [if_pos trivial]; exact hy.out), hid hb1⟩
    | false =>
      go_wp2
      go_meet
      case rel => exact ⟨tx, rfl, hid (by rw [if_neg (by simp)]; exact Htl.out), hid (Below.refl _ _)⟩
  case rest =>
    obtain ⟨y, rfl, hy, hb1⟩ := hcut
    have H1 := hid (H.out.keep hb1.out)
    have Hb1 := hid (H.out.bkeep (Below.refl base _) hb1.out)
    have f3 := H1.out.fz 3
    have k3 : wc.cell? ⟨R, 3, none⟩ = some VT := H1.out.cell 3 rfl
    clear hcv c3
    by_cases h0 : y.size = 0
    · obtain rfl := empty_of h0
      have hm := hid (mText_nil (m := m) (d := d) (by rw [← hy.out]))
      go_wp2
      go_end0
      rw [hm.out]
      exact ⟨rfl, Rf.rg (H1.out.set 3 (.slice none 0 0)).dropT, H1.out.bset Hb1.out 3 _⟩
    · have hne : ¬ y.data.toList = [] := fun e => h0 (by rw [← len_data, e]; rfl)
      have hemp : y.toList.isEmpty = false := by
        rw [ByteArray.toList_eq]
        cases e : y.data.toList with
        | nil => exact absurd e hne
        | cons _ _ => rfl
      have hm := hid (mText_cons (m := m) (d := d) (by rw [← hy.out]; exact hne))
      have c1 : wc.cell? ⟨R, 1, none⟩ = some (.slice An n cn) := H1.out.cell 1 rfl
      have HA := hid (H1.out.alloc (.cells #[.int .i64 3, .string ⟨#[]⟩, .string y, .slice none 0 0, .bool false] 36))
      obtain ⟨cs, hcs, hcb, hown⟩ := HA.out.out
      rw [Hn.out] at hown
      have Hcs := hid hcs
      have Hcb := hid hcb
      clear hne hcs hcb
      go_wp2_with (at_builtin; refine wpl_tok rfl _ _ rfl base _ n cs 3 ⟨#[]⟩ y (.slice none 0 0) false _ hown rfl rfl rfl hnb H1.out.size ?_; intro VO' w3 hown3 hg3; obtain ⟨A', c', rfl⟩ := own_shape hown3; have H3 := hid (HA.out.growO hg3 ⟨cs, Hcs.out, Hcb.out, rfl⟩ Hn.out hown3); have HB3 := hid (below_grown (H1.out.bkeep Hb1.out (alloc_below wc (.cells #[.int .i64 3, .string ⟨#[]⟩, .string y, .slice none 0 0, .bool false] 36))) HA.out.size HA.out.out.lo_ hg3); have g1 := H3.out.fz 1; have g3 := H3.out.fz 3; have q1 : w3.cell? ⟨R, 1, none⟩ = some (.slice An n cn) := H3.out.cell 1 rfl; have q3 : w3.cell? ⟨R, 3, none⟩ = some VT := H3.out.cell 3 rfl; clear hown3 hg3)
      go_end0
      rw [hm.out, ← hy.out]
      have H4 := hid (H3.out.set 1 (.slice A' (n + 1) c'))
      exact ⟨rfl, Rf.rg (H4.out.set 3 (.slice none 0 0)).dropT, H4.out.bset (H3.out.bset HB3.out 1 _) 3 _⟩
end Go.Proofs.Ytihgmgpcdodknaa
/- (*muslinref12.Reader).end. -/
namespace Go.Proofs.Ytihgmgpcdodknaa
open Go.RowKit

theorem heap_alloc_new1 (w : World) (o o' : Obj) : ((w.alloc o).alloc o').heap[w.heap.size + 1]? = some o' := by
  have := heap_alloc_new (w.alloc o) o'
  rwa [show (w.alloc o).heap.size = w.heap.size + 1 from by simp] at this
theorem OwnL.hi_ {w : World} {base B : Nat} {V : Value} {L : List Tk} (h : OwnL w base B V L) : ∀ g, V.ownBlock = some g → g < w.heap.size := by
  obtain ⟨cs, _, _, ho⟩ := h
  exact fun g e => (World.ownsRow.lt ho g e).2
section
variable {w w' : World} {base R : Nat} {cs : Array Value} {VO VT VA : Value} {B : Nat} {O : List Tk} {X : List UInt8} {A : List Att}
/-- the reader behind 'r.Tag = api.Token{}' -/
theorem Rg.tag0 (h : Rg w base R cs VO VT VA B O X A) : Rg (((((w.setCell ⟨R, 4, none⟩ (.int .i64 0)).setCell ⟨R, 5, none⟩ (.string ⟨#[]⟩)).setCell ⟨R, 6, none⟩ (.string ⟨#[]⟩)).setCell ⟨R, 7, none⟩ (.slice none 0 0)).setCell ⟨R, 8, none⟩ (.bool false)) base R
    (((((cs.setIfInBounds 4 (.int .i64 0)).setIfInBounds 5 (.string ⟨#[]⟩)).setIfInBounds 6 (.string ⟨#[]⟩)).setIfInBounds 7 (.slice none 0 0)).setIfInBounds 8 (.bool false)) VO VT (.slice none 0 0) B O X [] :=
  (((((h.set 4 _).set 5 _).set 6 _).set 7 _).set 8 _).dropA
theorem Rg.btag0 (h : Rg w base R cs VO VT VA B O X A) {w0 : World} (hb : Below base w0 w) : Below base w0 (((((w.setCell ⟨R, 4, none⟩ (.int .i64 0)).setCell ⟨R, 5, none⟩ (.string ⟨#[]⟩)).setCell ⟨R, 6, none⟩ (.string ⟨#[]⟩)).setCell ⟨R, 7, none⟩ (.slice none 0 0)).setCell ⟨R, 8, none⟩ (.bool false)) :=
  below_set (below_set (below_set (below_set (below_set hb _ _ h.hR) _ _ h.hR) _ _ h.hR) _ _ h.hR) _ _ h.hR
end
theorem Blk.tag0 {w : World} {R T : Nat} {t : TypeId} {cs : Array Value} (h : Blk w T t cs) (hRT : ¬ R = T) : Blk (((((w.setCell ⟨R, 4, none⟩ (.int .i64 0)).setCell ⟨R, 5, none⟩ (.string ⟨#[]⟩)).setCell ⟨R, 6, none⟩ (.string ⟨#[]⟩)).setCell ⟨R, 7, none⟩ (.slice none 0 0)).setCell ⟨R, 8, none⟩ (.bool false)) T t cs :=
  have hp : T ≠ R := fun e => hRT e.symm
  ((((h.far (p := ⟨R, 4, none⟩) hp _).far (p := ⟨R, 5, none⟩) hp _).far (p := ⟨R, 6, none⟩) hp _).far (p := ⟨R, 7, none⟩) hp _).far (p := ⟨R, 8, none⟩) hp _
theorem end_cells (s : ByteArray) (m : Mc) (VO VO' VT VA : Value) (O : List Tk) : ((((((((rcs s m VO VT VA).setIfInBounds 2 (.int .i64 0)).setIfInBounds 1 VO').setIfInBounds 4 (.int .i64 0)).setIfInBounds 5 (.string ⟨#[]⟩)).setIfInBounds 6 (.string ⟨#[]⟩)).setIfInBounds 7 (.slice none 0 0)).setIfInBounds 8 (.bool false)) = rcs s { m with st := 0, out := O, tag := tk0 } VO' VT (.slice none 0 0) := by
  unfold rcs
  simp [tk0]
  rfl
/-- the reader behind 'r.State, r.Raw, r.Kind = raw, t.Name, k' -/
theorem raw_cells (s : ByteArray) (m : Mc) (VO VT VA : Value) (nm : ByteArray) (kk : Int) (l : List UInt8) (h : bs l = nm) : ((((rcs s m VO VT VA).setIfInBounds 2 (.int .i64 15)).setIfInBounds 12 (.string nm)).setIfInBounds 13 (.int .i64 kk)) = rcs s { m with st := 15, raw := l, kind := kk } VO VT VA := by
  subst h
  rfl
set_option maxRecDepth 100000 in
set_option maxHeartbeats 6400000 in
theorem end_any (base R : Nat) (s : ByteArray) (m : Mc) (b : Nat) (w : World) (hb : Mb b m) (hb2 : b ≤ 400000) (h : Rf w base R s m) :
    Calls Try.prog 49 #[.pointer (some ⟨R, 0, none⟩)] w fun e w' => e = .returned (.tuple #[]) ∧ Rf w' base R s (mEnd m) ∧ Below base w w' := by
  obtain ⟨VO, VT, VA, B, h⟩ := h
  obtain ⟨n, hn⟩ : ∃ n, m.out.length = n := ⟨_, rfl⟩
  obtain ⟨An, cn, rfl⟩ := OwnL.shape h.out hn
  have hnb : n ≤ 400000 := by have := hb.out; omega
  obtain ⟨na, hna⟩ : ∃ n, m.tag.ats.length = n := ⟨_, rfl⟩
  obtain ⟨Aa, ca, rfl⟩ := OwnA.shapeV h.ats hna
  have Hel := hid (fun s W => refElem_any s W)
  obtain ⟨k, hk⟩ : ∃ k, m.tag.k = k := ⟨_, rfl⟩
  obtain ⟨nm, hnm⟩ : ∃ x, bs m.tag.n = x := ⟨_, rfl⟩
  obtain ⟨tx, htx⟩ : ∃ x, bs m.tag.x = x := ⟨_, rfl⟩
  obtain ⟨tc, htc⟩ : ∃ x, m.tag.c = x := ⟨_, rfl⟩
  have H := hid h
  have H1 := hid (h.set 2 (.int .i64 0))
  have Hb1 := hid (h.bset (Below.refl base _) 2 (.int .i64 0))
  have f2 := h.fz 2
  have c2 : w.cell? ⟨R, 2, none⟩ = some (.int .i64 (m.st : Int)) := h.cell 2 rfl
  obtain ⟨w1, hw1⟩ : ∃ w1, w.setCell ⟨R, 2, none⟩ (.int .i64 0) = w1 := ⟨_, rfl⟩
  rw [hw1] at H1 Hb1
  have Hw1 := hid hw1
  have t0 : w1.cell? ⟨R, 4, none⟩ = some (.int .i64 k) := H1.out.cell 4 (by rw [← hk]; rfl)
  have t1 : w1.cell? ⟨R, 5, none⟩ = some (.string nm) := H1.out.cell 5 (by rw [← hnm]; rfl)
  have t2 : w1.cell? ⟨R, 6, none⟩ = some (.string tx) := H1.out.cell 6 (by rw [← htx]; rfl)
  have t3 : w1.cell? ⟨R, 7, none⟩ = some (.slice Aa na ca) := H1.out.cell 7 rfl
  have t4 : w1.cell? ⟨R, 8, none⟩ = some (.bool tc) := H1.out.cell 8 (by rw [← htc]; rfl)
  have Hk := hid hk
  have Hnm := hid hnm
  have Htx := hid htx
  have Htc := hid htc
  have Hn := hid hn
  have Hna := hid hna
  clear hb h hn hna hk hnm htx htc hw1
  have HK := hid (fun (T : Tk) (h : mTok m.tag = T) => (show mEnd m = if T.k = 1 ∧ 1 ≤ elemK T.n ∧ elemK T.n ≤ 3 then { m with st := 15, out := m.out ++ [T], tag := tk0, raw := T.n, kind := elemK T.n } else { m with st := 0, out := m.out ++ [T], tag := tk0 } from by unfold mEnd; rw [h]))
  have hRlt := H1.out.lt
  have c1 : w1.cell? ⟨R, 1, none⟩ = some (.slice An n cn) := H1.out.cell 1 rfl
  have f1 := H1.out.fz 1
  have hsz1 := H1.out.size
  obtain ⟨i0, hi, hz0, hz1, hz2⟩ := info_parts info_tk
  by_cases hk2 : k = 2
  · subst hk2
    have HT : Hid (mTok m.tag = ⟨2, m.tag.n, m.tag.x, [], false⟩) := hid (by unfold mTok; rw [if_pos Hk.out, ← Hk.out])
    have HE : Hid (mEnd m = { m with st := 0, out := m.out ++ [⟨2, m.tag.n, m.tag.x, [], false⟩], tag := tk0 }) := hid (by rw [HK.out _ HT.out, if_neg (by rintro ⟨h, -⟩; cases h)])
    have HA := hid (H1.out.alloc (.cells #[.int .i64 2, .string nm, .string tx, .slice none 0 0, .bool false] 36))
    have HA2 := hid ((HA.out.alloc (.cells #[.int .i64 2, .string nm, .string tx, .slice none 0 0, .bool false] 36)).drew)
    obtain ⟨cs, hcs, hcb, hown⟩ := HA2.out.out
    rw [Hn.out] at hown
    have Hcs := hid hcs
    have Hcb := hid hcb
    have hne := own_blk_ne hown HA2.out.blk (by decide)
    have hlo := HA2.out.out.lo_
    clear hcs hcb
    go_enter Try.func49, Try.ntmps49
    go_upto_region 1 with fail
    rw [Hw1.out]
    go_upto_region 4 with fail
    go_cut [] from 16 to 26 (fun wx => ∃ gg cap, Hid (Rg wx base R (((rcs s m (.slice An n cn) VT (.slice Aa na ca)).setIfInBounds 2 (.int .i64 0)).setIfInBounds 1 (.slice (some ⟨gg, 0, none⟩) (n + 1) cap)) (.slice (some ⟨gg, 0, none⟩) (n + 1) cap) VT (.slice Aa na ca) B (m.out ++ [⟨2, nm.data.toList, tx.data.toList, [], false⟩]) m.text m.tag.ats) ∧ Hid (Below base w wx) ∧ Hid (Blk wx w1.heap.size 36 #[.int .i64 2, .string nm, .string tx, .slice none 0 0, .bool false]))
    case first =>
      refine wp_region_noPanic ?_
      go_region_law
        ((refine step_append_lies _ (by rfl) _ _ _ (by rfl) base 36 i0 _ 5 72 Try.underlying22 hi hz0 hz1 hz2 rfl (by omega) (.slice An n cn) n cs (by rfl) hown
            ⟨w1.heap.size + 1, 0, none⟩ 1 1 [.int .i64 2, .string nm, .string tx, .slice none 0 0, .bool false] (by rfl) (by rfl) (World.news_of_block (cs := #[.int .i64 2, .string nm, .string tx, .slice none 0 0, .bool false]) (t := 36) (fr := (0, 0)) (heap_alloc_new1 w1 _ _)) (by simp [Value.oneCell'])
            (by omega) (by unfold maxLen; omega) (by omega) (by simp; omega) (w1.heap.size + 2) (by simp) ?_; intro gg cap w4 hown3 hgrow hat hlt3
          have e0 : w4.cell? ⟨R, 1, none⟩ = some (.slice An n cn) := ((hgrow.cell_far _ (by simp; omega) (Ne.symm hne)).trans (HA2.out.cell 1 rfl))
          have e1 : w4.frozen? ⟨R, 1, none⟩ = false := (hgrow.frozen_far _ (by simp; omega) (Ne.symm hne)).trans (HA2.out.fz 1)))
      all_goals
        refine NoPanic.normal ?_
        have H4 := hid (HA2.out.growO hgrow ⟨cs, Hcs.out, Hcb.out, rfl⟩ Hn.out hown3)
        have HB4 := hid (below_grown (HA.out.bkeep (H1.out.bkeep Hb1.out (alloc_below _ _)) ((alloc_below _ (.cells #[.int .i64 2, .string nm, .string tx, .slice none 0 0, .bool false] 36)).drew)) HA2.out.size hlo hgrow)
        have hTb : Blk w4 w1.heap.size 36 #[.int .i64 2, .string nm, .string tx, .slice none 0 0, .bool false] := Blk.grown (Blk.drew (Blk.alloc (Blk.new w1 _ _) _)) hgrow (fun e => by have := H1.out.out.hi_ _ e.symm; omega)
        have hRT : ¬ R = w1.heap.size := by omega
        go_wp2
        go_meet
        case rel => exact ⟨gg, cap, hid (H4.out.set 1 _), hid (H4.out.bset HB4.out 1 _), hid (Blk.far hTb (p := ⟨R, 1, none⟩) (fun e => hRT e.symm) _)⟩
    case rest =>
      obtain ⟨gg, cap, H5, HB5, HTb⟩ := hcut
      clear hne hlo hown t0 t1 t2 t3 t4 c1 f1 c2 f2 HA HA2
      have T0 := (HTb.out.cell 0).trans rfl
      have T1 := (HTb.out.cell 1).trans rfl
      have hRT : ¬ R = w1.heap.size := by omega
      have q4 : wc.cell? ⟨R, 4, none⟩ = some (.int .i64 2) := H5.out.cell 4 (by rw [← Hk.out]; rfl)
      have q5 : wc.cell? ⟨R, 5, none⟩ = some (.string nm) := H5.out.cell 5 (by rw [← Hnm.out]; rfl)
      have q6 : wc.cell? ⟨R, 6, none⟩ = some (.string tx) := H5.out.cell 6 (by rw [← Htx.out]; rfl)
      have q7 : wc.cell? ⟨R, 7, none⟩ = some (.slice Aa na ca) := H5.out.cell 7 rfl
      have q8 : wc.cell? ⟨R, 8, none⟩ = some (.bool tc) := H5.out.cell 8 (by rw [← Htc.out]; rfl)
      have g4 := H5.out.fz 4
      have g5 := H5.out.fz 5
      have g6 := H5.out.fz 6
      have g7 := H5.out.fz 7
      have g8 := H5.out.fz 8
      go_wp2_with fail
      refine (Hel.out _ _).mono ?_
      rintro e w6 ⟨rfl, hb6⟩
      have H7 := hid (H5.out.tag0.keep hb6)
      have HB7 := hid (H5.out.tag0.bkeep (H5.out.btag0 HB5.out) hb6)
      have hT7 : Blk w6 w1.heap.size 36 #[.int .i64 2, .string nm, .string tx, .slice none 0 0, .bool false] := Blk.below (Blk.tag0 HTb.out hRT) hb6 (Blk.lt (Blk.tag0 HTb.out hRT))
      have T0' := (hT7.cell 0).trans rfl
      have T1' := (hT7.cell 1).trans rfl
      clear T0 T1 q4 q5 q6 q7 q8 g4 g5 g6 g7 g8 hT7
      go_wp2
      go_end0
      rw [HE.out]
      exact ⟨rfl, Rf.rgs (m := { m with st := 0, out := m.out ++ [⟨2, m.tag.n, m.tag.x, [], false⟩], tag := tk0 }) (by rw [← bs_list m.tag.n, ← bs_list m.tag.x, Hnm.out, Htx.out]; exact H7.out) (end_cells s m _ _ VT _ _) rfl rfl rfl, HB7.out⟩
  · have hkb : (k == 2) = false := beq_eq_false_iff_ne.2 hk2
    have HT : Hid (mTok m.tag = ⟨k, m.tag.n, m.tag.x, m.tag.ats, tc⟩) := hid (by unfold mTok; rw [if_neg (by rw [Hk.out]; exact hk2), ← Hk.out, ← Htc.out])
    obtain ⟨kk, hkk⟩ : ∃ kk, elemK nm.data.toList = kk := ⟨_, rfl⟩
    have Hel2 := hid (fun W => Hel.out nm W)
    rw [hkk] at Hel2
    have Hkk : Hid (elemK m.tag.n = kk) := hid (by rw [← hkk, ← Hnm.out, bs_list])
    clear hkk
    have HA := hid (H1.out.alloc (.cells #[.int .i64 k, .string nm, .string tx, .slice Aa na ca, .bool tc] 36))
    have HA2 := hid ((HA.out.alloc (.cells #[.int .i64 k, .string nm, .string tx, .slice Aa na ca, .bool tc] 36)).drew)
    obtain ⟨cs, hcs, hcb, hown⟩ := HA2.out.out
    rw [Hn.out] at hown
    have Hcs := hid hcs
    have Hcb := hid hcb
    have hne := own_blk_ne hown HA2.out.blk (by decide)
    have hlo := HA2.out.out.lo_
    clear hcs hcb
    go_enter Try.func49, Try.ntmps49
    go_upto_region 1 with fail
    rw [Hw1.out]
    go_upto_region 4 with fail
    go_cut [] from 16 to 26 (fun wx => ∃ gg cap B2, Hid (Rg wx base R (((rcs s m (.slice An n cn) VT (.slice Aa na ca)).setIfInBounds 2 (.int .i64 0)).setIfInBounds 1 (.slice (some ⟨gg, 0, none⟩) (n + 1) cap)) (.slice (some ⟨gg, 0, none⟩) (n + 1) cap) VT (.slice none 0 0) B2 (m.out ++ [⟨k, nm.data.toList, tx.data.toList, m.tag.ats, tc⟩]) m.text []) ∧ Hid (Below base w wx) ∧ Hid (Blk wx w1.heap.size 36 #[.int .i64 k, .string nm, .string tx, .slice Aa na ca, .bool tc]))
    case first =>
      refine wp_region_noPanic ?_
      go_region_law
        ((refine step_append_lies _ (by rfl) _ _ _ (by rfl) base 36 i0 _ 5 72 Try.underlying22 hi hz0 hz1 hz2 rfl (by omega) (.slice An n cn) n cs (by rfl) hown
            ⟨w1.heap.size + 1, 0, none⟩ 1 1 [.int .i64 k, .string nm, .string tx, .slice Aa na ca, .bool tc] (by rfl) (by rfl) (World.news_of_block (cs := #[.int .i64 k, .string nm, .string tx, .slice Aa na ca, .bool tc]) (t := 36) (fr := (0, 0)) (heap_alloc_new1 w1 _ _)) (by simp [Value.oneCell'])
            (by omega) (by unfold maxLen; omega) (by omega) (by simp; omega) (w1.heap.size + 2) (by simp) ?_; intro gg cap w4 hown3 hgrow hat hlt3
          have e0 : w4.cell? ⟨R, 1, none⟩ = some (.slice An n cn) := ((hgrow.cell_far _ (by simp; omega) (Ne.symm hne)).trans (HA2.out.cell 1 rfl))
          have e1 : w4.frozen? ⟨R, 1, none⟩ = false := (hgrow.frozen_far _ (by simp; omega) (Ne.symm hne)).trans (HA2.out.fz 1)))
      all_goals
        refine NoPanic.normal ?_
        have H4 := hid (HA2.out.growE hgrow ⟨cs, Hcs.out, Hcb.out, rfl⟩ Hn.out hown3)
        have HB4 := hid (below_grown (HA.out.bkeep (H1.out.bkeep Hb1.out (alloc_below _ _)) ((alloc_below _ (.cells #[.int .i64 k, .string nm, .string tx, .slice Aa na ca, .bool tc] 36)).drew)) HA2.out.size hlo hgrow)
        have hTb : Blk w4 w1.heap.size 36 #[.int .i64 k, .string nm, .string tx, .slice Aa na ca, .bool tc] := Blk.grown (Blk.drew (Blk.alloc (Blk.new w1 _ _) _)) hgrow (fun e => by have := H1.out.out.hi_ _ e.symm; omega)
        have hRT : ¬ R = w1.heap.size := by omega
        go_wp2
        go_meet
        case rel => exact ⟨gg, cap, _, hid (H4.out.set 1 _), hid (H4.out.bset HB4.out 1 _), hid (Blk.far hTb (p := ⟨R, 1, none⟩) (fun e => hRT e.symm) _)⟩
    case rest =>
      obtain ⟨gg, cap, B2, H5, HB5, HTb⟩ := hcut
      clear hne hlo hown t0 t1 t2 t3 t4 c1 f1 c2 f2 HA HA2
      have T0 := (HTb.out.cell 0).trans rfl
      have T1 := (HTb.out.cell 1).trans rfl
      have hRT : ¬ R = w1.heap.size := by omega
      have q4 : wc.cell? ⟨R, 4, none⟩ = some (.int .i64 k) := H5.out.cell 4 (by rw [← Hk.out]; rfl)
      have q5 : wc.cell? ⟨R, 5, none⟩ = some (.string nm) := H5.out.cell 5 (by rw [← Hnm.out]; rfl)
      have q6 : wc.cell? ⟨R, 6, none⟩ = some (.string tx) := H5.out.cell 6 (by rw [← Htx.out]; rfl)
      have q7 : wc.cell? ⟨R, 7, none⟩ = some (.slice Aa na ca) := H5.out.cell 7 rfl
      have q8 : wc.cell? ⟨R, 8, none⟩ = some (.bool tc) := H5.out.cell 8 (by rw [← Htc.out]; rfl)
      have g4 := H5.out.fz 4
      have g5 := H5.out.fz 5
      have g6 := H5.out.fz 6
      have g7 := H5.out.fz 7
      have g8 := H5.out.fz 8
      go_wp2_with fail
      refine (Hel2.out _).mono ?_
      rintro e w6 ⟨rfl, hb6⟩
      have H7 := hid (H5.out.tag0.keep hb6)
      have HB7 := hid (H5.out.tag0.bkeep (H5.out.btag0 HB5.out) hb6)
      have hT7 : Blk w6 w1.heap.size 36 #[.int .i64 k, .string nm, .string tx, .slice Aa na ca, .bool tc] := Blk.below (Blk.tag0 HTb.out hRT) hb6 (Blk.lt (Blk.tag0 HTb.out hRT))
      have T0' := (hT7.cell 0).trans rfl
      have T1' := (hT7.cell 1).trans rfl
      clear T0 T1 q4 q5 q6 q7 q8 g4 g5 g6 g7 g8 hT7
      have hnx : (⟨k, nm.data.toList, tx.data.toList, m.tag.ats, tc⟩ : Tk) = ⟨k, m.tag.n, m.tag.x, m.tag.ats, tc⟩ := by rw [← Hnm.out, ← Htx.out, bs_list, bs_list]
      rw [hnx] at H7
      have H7r := H7.out
      rw [end_cells s m _ _ VT _ (m.out ++ [⟨k, m.tag.n, m.tag.x, m.tag.ats, tc⟩])] at H7r
      obtain ⟨mm, hmm⟩ : ∃ mm : Mc, ({ m with st := 0, out := m.out ++ [⟨k, m.tag.n, m.tag.x, m.tag.ats, tc⟩], tag := tk0 } : Mc) = mm := ⟨_, rfl⟩
      rw [hmm] at H7r
      have H7' : Hid (Rg w6 base R (rcs s mm (.slice (some ⟨gg, 0, none⟩) (n + 1) cap) VT (.slice none 0 0)) (.slice (some ⟨gg, 0, none⟩) (n + 1) cap) VT (.slice none 0 0) B2 mm.out mm.text mm.tag.ats) := hid (by rw [← hmm] at H7r ⊢; exact H7r)
      have Hmm := hid hmm
      clear hnx H7 H7r hmm
      by_cases hk1 : k = 1
      · subst hk1
        by_cases hin : 1 ≤ kk ∧ kk ≤ 3
        · have HE : Hid (mEnd m = { m with st := 15, out := m.out ++ [⟨1, m.tag.n, m.tag.x, m.tag.ats, tc⟩], tag := tk0, raw := m.tag.n, kind := kk }) := hid (by rw [HK.out _ HT.out, if_pos ⟨rfl, by rw [Hkk.out]; exact hin.1, by rw [Hkk.out]; exact hin.2⟩, Hkk.out])
          have d1 : decide (1 ≤ kk) = true := decide_eq_true hin.1
          have d2 : decide (kk ≤ 3) = true := decide_eq_true hin.2
          have i1 := hin.1
          have i2 := hin.2
          have g2 := H7'.out.fz 2
          have g12 := H7'.out.fz 12
          have g13 := H7'.out.fz 13
          have b2 : w6.cell? ⟨R, 2, none⟩ = some (.int .i64 (mm.st : Int)) := H7'.out.cell 2 rfl
          have b12 : w6.cell? ⟨R, 12, none⟩ = some (.string (bs mm.raw)) := H7'.out.cell 12 rfl
          have b13 : w6.cell? ⟨R, 13, none⟩ = some (.int .i64 mm.kind) := H7'.out.cell 13 rfl
          clear hin
          have HE2 : Hid (mEnd m = { mm with st := 15, raw := m.tag.n, kind := kk }) := hid (by rw [HE.out, ← Hmm.out])
          go_upto_region 8 with fail
          go_region
          all_goals
            go_wp2
            go_end0
            rw [HE2.out]
            exact ⟨rfl, Rf.rgs (m' := { mm with st := 15, raw := m.tag.n, kind := kk }) (((H7'.out.drew.set 2 (.int .i64 15)).set 12 (.string nm)).set 13 (.int .i64 kk)) (raw_cells s mm _ _ _ nm kk m.tag.n Hnm.out) rfl rfl rfl, ((H7'.out.drew.set 2 (.int .i64 15)).set 12 (.string nm)).bset ((H7'.out.drew.set 2 (.int .i64 15)).bset (H7'.out.drew.bset HB7.out.drew 2 _) 12 _) 13 _⟩
        · have HE : Hid (mEnd m = { m with st := 0, out := m.out ++ [⟨1, m.tag.n, m.tag.x, m.tag.ats, tc⟩], tag := tk0 }) := hid (by rw [HK.out _ HT.out, if_neg (by rintro ⟨-, h2, h3⟩; rw [Hkk.out] at h2 h3; exact hin ⟨h2, h3⟩)])
          by_cases h1 : 1 ≤ kk
          · have h3 : ¬ kk ≤ 3 := fun h3 => hin ⟨h1, h3⟩
            have d1 : decide (1 ≤ kk) = true := decide_eq_true h1
            have d2 : decide (kk ≤ 3) = false := decide_eq_false h3
            clear hin
            go_wp2
            go_end0
            rw [HE.out]
            rw [Hmm.out]
            exact ⟨rfl, Rf.rg H7'.out, HB7.out⟩
          · have d1 : decide (1 ≤ kk) = false := decide_eq_false h1
            clear hin
            go_wp2
            go_end0
            rw [HE.out]
            rw [Hmm.out]
            exact ⟨rfl, Rf.rg H7'.out, HB7.out⟩
      · have hk1b : (k == 1) = false := beq_eq_false_iff_ne.2 hk1
        have HE : Hid (mEnd m = { m with st := 0, out := m.out ++ [⟨k, m.tag.n, m.tag.x, m.tag.ats, tc⟩], tag := tk0 }) := hid (by rw [HK.out _ HT.out, if_neg (by rintro ⟨h, -⟩; exact hk1 h)])
        go_wp2
        go_end0
        rw [HE.out]
        rw [Hmm.out]
        exact ⟨rfl, Rf.rg H7'.out, HB7.out⟩
end Go.Proofs.Ytihgmgpcdodknaa
/- (*muslinref12.Reader).tag: states 3, 4, 10, 11. -/
namespace Go.Proofs.Ytihgmgpcdodknaa
open Go.RowKit

/-- what a step of the reader's answers -/
def RM (base R : Nat) (s : ByteArray) (w : World) (p : Mc × Bool) (e : Ending) (w' : World) : Prop := e = .returned (.bool p.2) ∧ Rf w' base R s p.1 ∧ Below base w w'
theorem low_room (nm t : ByteArray) (c : UInt8) (b : Nat) (hn : nm.size ≤ b) (hb : b ≤ 400000) (ht : t.data.toList = [c]) : ¬ 9223372036854775807 < nm.size + t.size := by
  have : t.size = 1 := by rw [← len_data, ht]; rfl
  omega

set_option maxRecDepth 100000 in
set_option maxHeartbeats 6400000 in
theorem tag3_any (base R : Nat) (s : ByteArray) (m : Mc) (n : Int) (h0 : 0 ≤ n) (h1 : n ≤ 255) (hst : m.st = 3) (b : Nat) (w : World) (hb : Mb b m) (hb2 : b ≤ 400000) (h : Rf w base R s m) :
    Calls Try.prog 29 #[.pointer (some ⟨R, 0, none⟩), .int .u8 n] w (RM base R s w (mTag m (bOf n))) := by
  have hend := hid (fun W (h : Rf W base R s m) => end_any base R s m b W hb hb2 h)
  have hrf := h
  obtain ⟨VO, VT, VA, B, h⟩ := h
  obtain ⟨p, hp⟩ : ∃ p, mTag m (bOf n) = p := ⟨_, rfl⟩
  have Hp : Hid (p = if isBlank (bOf n) then ({ m with st := 4 }, false) else if bOf n = 47 then ({ m with st := 11 }, false) else if bOf n = 62 then (mEnd m, false) else ({ m with tag := { m.tag with n := m.tag.n ++ [lowB (bOf n)] } }, false)) := hid (by rw [← hp]; unfold mTag; split <;> first | omega | rfl | (exfalso; revert hst; assumption))
  rw [hp]
  clear hp
  have c2 : w.cell? ⟨R, 2, none⟩ = some (.int .i64 3) := h.cell 2 (by unfold rcs; rw [hst]; rfl)
  have f2 := h.fz 2
  have f5 := h.fz 5
  obtain ⟨nm, hnm⟩ : ∃ x, bs m.tag.n = x := ⟨_, rfl⟩
  have c5 : w.cell? ⟨R, 5, none⟩ = some (.string nm) := h.cell 5 (by rw [← hnm]; rfl)
  have hns : nm.size ≤ b := by rw [← hnm]; exact hb.n
  have Hbl := hid (fun W => (refBlank_any n h0 h1 W).mono fun e w' h => (⟨h.1, h.2.symm⟩ : e = _ ∧ w' = W))
  have Hlow := hid (fun W => low1_any n h0 h1 W)
  have H := hid h
  have Hrf := hid hrf
  have Hnm := hid hnm
  have hRlt := h.lt
  clear h hrf hb hnm
  by_cases hbl : isBlank (bOf n) = true
  · rw [hbl] at Hbl
    have Hq : Hid (p = ({ m with st := 4 }, false)) := hid (by rw [Hp.out, if_pos hbl])
    clear hbl
    go_enter Try.func29, Try.ntmps29
    go_wp2_with (go_at_call 48; refine (Hbl.out _).mono ?_; rintro e2 w2 ⟨rfl, hw2⟩; subst w2)
    go_ret
    rw [Hq.out]
    exact ⟨rfl, Rf.rgs (m := m) (H.out.set 2 (.int .i64 4)) rfl rfl rfl rfl, H.out.bset (Below.refl _ _) 2 _⟩
  · have hbf : isBlank (bOf n) = false := by simpa using hbl
    rw [hbf] at Hbl
    by_cases h47 : n = 47
    · subst h47
      have Hq : Hid (p = ({ m with st := 11 }, false)) := hid (by rw [Hp.out, hbf]; rfl)
      clear hbl hbf
      go_enter Try.func29, Try.ntmps29
      go_wp2_with (go_at_call 48; refine (Hbl.out _).mono ?_; rintro e2 w2 ⟨rfl, hw2⟩; subst w2)
      go_ret
      rw [Hq.out]
      exact ⟨rfl, Rf.rgs (m := m) (H.out.set 2 (.int .i64 11)) rfl rfl rfl rfl, H.out.bset (Below.refl _ _) 2 _⟩
    · have h47b : (n == 47) = false := beq_eq_false_iff_ne.2 h47
      have e47 := bOf_no n h0 h1 47 47 rfl h47
      by_cases h62 : n = 62
      · subst h62
        have Hq : Hid (p = (mEnd m, false)) := hid (by rw [Hp.out, hbf]; rfl)
        clear hbl hbf e47
        go_enter Try.func29, Try.ntmps29
        go_wp2_with (go_at_call 48; refine (Hbl.out _).mono ?_; rintro e2 w2 ⟨rfl, hw2⟩; subst w2)
        refine (hend.out _ Hrf.out).mono ?_
        rintro e w1 ⟨rfl, hrf1, hb1⟩
        go_wp2
        go_ret
        rw [Hq.out]
        exact ⟨rfl, hrf1, hb1⟩
      · have h62b : (n == 62) = false := beq_eq_false_iff_ne.2 h62
        have e62 := bOf_no n h0 h1 62 62 rfl h62
        have Hq : Hid (p = ({ m with tag := { m.tag with n := m.tag.n ++ [lowB (bOf n)] } }, false)) := hid (by rw [Hp.out, hbf, if_neg (by simp), if_neg e47, if_neg e62])
        have Hroom := hid (fun t c ht => low_room nm t c b hns hb2 ht)
        clear hbl hbf e47 e62
        go_enter Try.func29, Try.ntmps29
        go_wp2_with (go_at_call 48; refine (Hbl.out _).mono ?_; rintro e2 w2 ⟨rfl, hw2⟩; subst w2)
        refine wp_region_noPanic ?_
        go_region_law ((go_simp; go_at_call 50; refine (Hlow.out _).mono ?_; rintro e' w' ⟨t, rfl, ht, hbk⟩; have d5 := cell_aft (v := .string nm) hbk hRlt c5; have df := (hbk.frozen (p := ⟨R, 5, none⟩) hRlt).trans f5; have hct := Hroom.out t _ ht.out; dsimp only))
        all_goals
          refine NoPanic.normal ?_
          clear hct d5 df
          have hz2 : nm ++ t = bs (m.tag.n ++ [lowB (bOf n)]) := bs_of (by rw [data_append, ht.out, ← Hnm.out, bs_list])
          have hbk' : Below w.heap.size w w' := ((Below.refl _ _).drew).trans hbk
          have H2 := H.out.keep hbk'
          have hb2' := H.out.bkeep (Below.refl base _) hbk'
          go_wp2
          go_ret
          rw [Hq.out, hz2]
          exact ⟨rfl, Rf.rgs (m := m) (H2.set 5 _) rfl rfl rfl rfl, H2.bset hb2' 5 _⟩
end Go.Proofs.Ytihgmgpcdodknaa
/- (*muslinref12.Reader).tag: states 4, 5, 6, 10, 11. -/
namespace Go.Proofs.Ytihgmgpcdodknaa
open Go.RowKit

theorem Mb.put {b : Nat} {m : Mc} (h : Mb b m) : Mb (b + 1) (mPut m) :=
  ⟨Nat.le_succ_of_le h.text, Nat.le_succ_of_le h.n, Nat.zero_le _, Nat.zero_le _, Nat.le_succ_of_le h.raw, Nat.le_succ_of_le h.out, by show (m.tag.ats ++ [(m.a.1, decL m.a.2)]).length ≤ _; rw [List.length_append, List.length_singleton]; have := h.ats; omega⟩
set_option maxRecDepth 100000 in
set_option maxHeartbeats 6400000 in
theorem tag4_any (base R : Nat) (s : ByteArray) (m : Mc) (n : Int) (h0 : 0 ≤ n) (h1 : n ≤ 255) (hst : m.st = 4) (b : Nat) (w : World) (hb : Mb b m) (hb2 : b ≤ 399999) (h : Rf w base R s m) :
    Calls Try.prog 29 #[.pointer (some ⟨R, 0, none⟩), .int .u8 n] w (RM base R s w (mTag m (bOf n))) := by
  have hend := hid (fun W (h : Rf W base R s m) => end_any base R s m b W hb (by omega) h)
  have hput := hid (fun W (h : Rf W base R s m) => put_any base R s m b W hb (by omega) h)
  have hpend := hid (fun W (h : Rf W base R s (mPut m)) => end_any base R s (mPut m) (b + 1) W hb.put (by omega) h)
  have hrf := h
  obtain ⟨VO, VT, VA, B, h⟩ := h
  obtain ⟨p, hp⟩ : ∃ p, mTag m (bOf n) = p := ⟨_, rfl⟩
  have Hp : Hid (p = if isBlank (bOf n) then (m, false) else if bOf n = 47 then ({ m with st := 11 }, false) else if bOf n = 62 then (mEnd m, false) else ({ m with st := 5, a := ([lowB (bOf n)], []) }, false)) := hid (by rw [← hp]; unfold mTag; split <;> first | omega | rfl | (exfalso; revert hst; assumption))
  rw [hp]
  clear hp
  have c2 : w.cell? ⟨R, 2, none⟩ = some (.int .i64 4) := h.cell 2 (by unfold rcs; rw [hst]; rfl)
  have f2 := h.fz 2
  skip
  have Hbl := hid (fun W => (refBlank_any n h0 h1 W).mono fun e w' h => (⟨h.1, h.2.symm⟩ : e = _ ∧ w' = W))
  have Hlow := hid (fun W => low1_any n h0 h1 W)
  have H := hid h
  have Hrf := hid hrf
  have hRlt := h.lt
  clear h hrf hb
  by_cases hbl : isBlank (bOf n) = true
  · rw [hbl] at Hbl
    have Hq : Hid (p = (m, false)) := hid (by rw [Hp.out, if_pos hbl])
    go_enter Try.func29, Try.ntmps29
    go_wp2_with (go_at_call 48; refine (Hbl.out _).mono ?_; rintro e2 w2 ⟨rfl, hw2⟩; subst w2)
    go_ret
    rw [Hq.out]
    exact ⟨rfl, Hrf.out, Below.refl _ _⟩
  · have hbf : isBlank (bOf n) = false := by simpa using hbl
    rw [hbf] at Hbl
    clear hbl
    by_cases h47 : n = 47
    · subst h47
      have Hq : Hid (p = ({ m with st := 11 }, false)) := hid (by rw [Hp.out, hbf]; rfl)

      go_enter Try.func29, Try.ntmps29
      go_wp2_with (go_at_call 48; refine (Hbl.out _).mono ?_; rintro e2 w2 ⟨rfl, hw2⟩; subst w2)
      go_ret
      rw [Hq.out]
      exact ⟨rfl, Rf.rgs (m := m) (H.out.set 2 (.int .i64 11)) rfl rfl rfl rfl, H.out.bset (Below.refl _ _) 2 _⟩
    · have h47b : (n == 47) = false := beq_eq_false_iff_ne.2 h47
      have e47 := bOf_no n h0 h1 47 47 rfl h47
      by_cases h62 : n = 62
      · subst h62
        have Hq : Hid (p = (mEnd m, false)) := hid (by rw [Hp.out, hbf]; rfl)
        go_enter Try.func29, Try.ntmps29
        go_wp2_with (go_at_call 48; refine (Hbl.out _).mono ?_; rintro e2 w2 ⟨rfl, hw2⟩; subst w2)
        refine (hend.out _ Hrf.out).mono ?_
        rintro e w1 ⟨rfl, hrf1, hb1⟩
        go_wp2
        go_ret
        rw [Hq.out]
        exact ⟨rfl, hrf1, hb1⟩
      · have h62b : (n == 62) = false := beq_eq_false_iff_ne.2 h62
        have e62 := bOf_no n h0 h1 62 62 rfl h62
        have Hq : Hid (p = ({ m with st := 5, a := ([lowB (bOf n)], []) }, false)) := hid (by rw [Hp.out, hbf, if_neg (by simp), if_neg e47, if_neg e62])
        go_enter Try.func29, Try.ntmps29
        go_wp2_with (first
          | (go_at_call 48; refine (Hbl.out _).mono ?_; rintro e2 w2 ⟨rfl, hw2⟩; subst w2)
          | (go_at_call 50; refine (Hlow.out _).mono ?_; rintro e3 w3 ⟨t, rfl, ht, hbk⟩; have H3 := H.out.keep hbk; have k2 := H3.cell 2 rfl; have k9 := H3.cell 9 rfl; have k10 := H3.cell 10 rfl; have g2 := H3.fz 2; have g9 := H3.fz 9; have g10 := H3.fz 10))
        go_ret
        rw [Hq.out]
        exact ⟨rfl, Rf.rgs (m := m) (((H3.set 2 (.int .i64 5)).set 9 (.string t)).set 10 (.string ⟨#[]⟩)) (by rw [bs_of ht.out]; rfl) rfl rfl rfl, ((H3.set 2 (.int .i64 5)).set 9 (.string t)).bset ((H3.set 2 (.int .i64 5)).bset (H3.bset (H.out.bkeep (Below.refl _ _) hbk) 2 _) 9 _) 10 _⟩
set_option maxRecDepth 100000 in
set_option maxHeartbeats 6400000 in
theorem tag5_any (base R : Nat) (s : ByteArray) (m : Mc) (n : Int) (h0 : 0 ≤ n) (h1 : n ≤ 255) (hst : m.st = 5) (b : Nat) (w : World) (hb : Mb b m) (hb2 : b ≤ 399999) (h : Rf w base R s m) :
    Calls Try.prog 29 #[.pointer (some ⟨R, 0, none⟩), .int .u8 n] w (RM base R s w (mTag m (bOf n))) := by
  have hend := hid (fun W (h : Rf W base R s m) => end_any base R s m b W hb (by omega) h)
  have hput := hid (fun W (h : Rf W base R s m) => put_any base R s m b W hb (by omega) h)
  have hpend := hid (fun W (h : Rf W base R s (mPut m)) => end_any base R s (mPut m) (b + 1) W hb.put (by omega) h)
  have hrf := h
  obtain ⟨VO, VT, VA, B, h⟩ := h
  obtain ⟨p, hp⟩ : ∃ p, mTag m (bOf n) = p := ⟨_, rfl⟩
  have Hp : Hid (p = if isBlank (bOf n) then ({ m with st := 6 }, false) else if bOf n = 61 then ({ m with st := 7 }, false) else if bOf n = 47 then ({ mPut m with st := 11 }, false) else if bOf n = 62 then (mEnd (mPut m), false) else ({ m with a := (m.a.1 ++ [lowB (bOf n)], m.a.2) }, false)) := hid (by rw [← hp]; unfold mTag; split <;> first | omega | rfl | (exfalso; revert hst; assumption))
  rw [hp]
  clear hp
  have c2 : w.cell? ⟨R, 2, none⟩ = some (.int .i64 5) := h.cell 2 (by unfold rcs; rw [hst]; rfl)
  have f2 := h.fz 2
  obtain ⟨nm, hnm⟩ : ∃ x, bs m.a.1 = x := ⟨_, rfl⟩
  have c5 : w.cell? ⟨R, 9, none⟩ = some (.string nm) := h.cell 9 (by rw [← hnm]; rfl)
  have f5 := h.fz 9
  have hns : nm.size ≤ b := by rw [← hnm]; exact hb.a1
  have Hnm := hid hnm
  clear hnm
  have Hbl := hid (fun W => (refBlank_any n h0 h1 W).mono fun e w' h => (⟨h.1, h.2.symm⟩ : e = _ ∧ w' = W))
  have Hlow := hid (fun W => low1_any n h0 h1 W)
  have H := hid h
  have Hrf := hid hrf
  have hRlt := h.lt
  clear h hrf hb
  by_cases hbl : isBlank (bOf n) = true
  · rw [hbl] at Hbl
    have Hq : Hid (p = ({ m with st := 6 }, false)) := hid (by rw [Hp.out, if_pos hbl])

    go_enter Try.func29, Try.ntmps29
    go_wp2_with (go_at_call 48; refine (Hbl.out _).mono ?_; rintro e2 w2 ⟨rfl, hw2⟩; subst w2)
    go_ret
    rw [Hq.out]
    exact ⟨rfl, Rf.rgs (m := m) (H.out.set 2 (.int .i64 6)) rfl rfl rfl rfl, H.out.bset (Below.refl _ _) 2 _⟩
  · have hbf : isBlank (bOf n) = false := by simpa using hbl
    rw [hbf] at Hbl
    clear hbl
    by_cases h61 : n = 61
    · subst h61
      have Hq : Hid (p = ({ m with st := 7 }, false)) := hid (by rw [Hp.out, hbf]; rfl)

      go_enter Try.func29, Try.ntmps29
      go_wp2_with (go_at_call 48; refine (Hbl.out _).mono ?_; rintro e2 w2 ⟨rfl, hw2⟩; subst w2)
      go_ret
      rw [Hq.out]
      exact ⟨rfl, Rf.rgs (m := m) (H.out.set 2 (.int .i64 7)) rfl rfl rfl rfl, H.out.bset (Below.refl _ _) 2 _⟩
    · have h61b : (n == 61) = false := beq_eq_false_iff_ne.2 h61
      have e61 := bOf_no n h0 h1 61 61 rfl h61
      by_cases h47 : n = 47
      · subst h47
        have Hq : Hid (p = ({ mPut m with st := 11 }, false)) := hid (by rw [Hp.out, hbf]; rfl)
        go_enter Try.func29, Try.ntmps29
        go_wp2_with (go_at_call 48; refine (Hbl.out _).mono ?_; rintro e2 w2 ⟨rfl, hw2⟩; subst w2)
        refine (hput.out _ Hrf.out).mono ?_
        rintro e w1 ⟨rfl, ⟨VO1, VT1, VA1, B1, hrf1⟩, hb1⟩
        have HP := hid hrf1
        have HB := hid hb1
        have g2 := hrf1.fz 2
        have k2 := hrf1.cell 2 rfl
        clear hrf1 hb1
        go_wp2
        go_ret
        rw [Hq.out]
        exact ⟨rfl, Rf.rgs (m := mPut m) (HP.out.set 2 (.int .i64 11)) rfl rfl rfl rfl, HP.out.bset HB.out 2 _⟩
      · have h47b : (n == 47) = false := beq_eq_false_iff_ne.2 h47
        have e47 := bOf_no n h0 h1 47 47 rfl h47
        by_cases h62 : n = 62
        · subst h62
          have Hq : Hid (p = (mEnd (mPut m), false)) := hid (by rw [Hp.out, hbf]; rfl)
          go_enter Try.func29, Try.ntmps29
          go_wp2_with (go_at_call 48; refine (Hbl.out _).mono ?_; rintro e2 w2 ⟨rfl, hw2⟩; subst w2)
          refine (hput.out _ Hrf.out).mono ?_
          rintro e w1 ⟨rfl, hrf1, hb1⟩
          have HB := hid hb1
          clear hb1
          go_wp2_with fail
          refine (hpend.out _ hrf1).mono ?_
          rintro e w2 ⟨rfl, hrf2, hb2'⟩
          go_wp2
          go_ret
          rw [Hq.out]
          exact ⟨rfl, hrf2, HB.out.trans hb2'⟩
        · have h62b : (n == 62) = false := beq_eq_false_iff_ne.2 h62
          have e62 := bOf_no n h0 h1 62 62 rfl h62
          have Hq : Hid (p = ({ m with a := (m.a.1 ++ [lowB (bOf n)], m.a.2) }, false)) := hid (by rw [Hp.out, hbf, if_neg (by simp), if_neg e61, if_neg e47, if_neg e62])
          have Hroom := hid (fun t c ht => low_room nm t c b hns (by omega) ht)
          go_enter Try.func29, Try.ntmps29
          go_wp2_with (go_at_call 48; refine (Hbl.out _).mono ?_; rintro e2 w2 ⟨rfl, hw2⟩; subst w2)
          refine wp_region_noPanic ?_
          go_region_law ((go_simp; go_at_call 50; refine (Hlow.out _).mono ?_; rintro e' w' ⟨t, rfl, ht, hbk⟩; have d5 := cell_aft (v := .string nm) hbk hRlt c5; have df := (hbk.frozen (p := ⟨R, 9, none⟩) hRlt).trans f5; have hct := Hroom.out t _ ht.out; dsimp only))
          all_goals
            refine NoPanic.normal ?_
            clear hct d5 df
            have hz2 : nm ++ t = bs (m.a.1 ++ [lowB (bOf n)]) := bs_of (by rw [data_append, ht.out, ← Hnm.out, bs_list])
            have hbk' : Below w.heap.size w w' := ((Below.refl _ _).drew).trans hbk
            have H2 := H.out.keep hbk'
            have hb2' := H.out.bkeep (Below.refl base _) hbk'
            go_wp2
            go_ret
            rw [Hq.out, hz2]
            exact ⟨rfl, Rf.rgs (m := m) (H2.set 9 _) rfl rfl rfl rfl, H2.bset hb2' 9 _⟩
set_option maxRecDepth 100000 in
set_option maxHeartbeats 6400000 in
theorem tag6_any (base R : Nat) (s : ByteArray) (m : Mc) (n : Int) (h0 : 0 ≤ n) (h1 : n ≤ 255) (hst : m.st = 6) (b : Nat) (w : World) (hb : Mb b m) (hb2 : b ≤ 399999) (h : Rf w base R s m) :
    Calls Try.prog 29 #[.pointer (some ⟨R, 0, none⟩), .int .u8 n] w (RM base R s w (mTag m (bOf n))) := by
  have hend := hid (fun W (h : Rf W base R s m) => end_any base R s m b W hb (by omega) h)
  have hput := hid (fun W (h : Rf W base R s m) => put_any base R s m b W hb (by omega) h)
  have hpend := hid (fun W (h : Rf W base R s (mPut m)) => end_any base R s (mPut m) (b + 1) W hb.put (by omega) h)
  have hrf := h
  obtain ⟨VO, VT, VA, B, h⟩ := h
  obtain ⟨p, hp⟩ : ∃ p, mTag m (bOf n) = p := ⟨_, rfl⟩
  have Hp : Hid (p = if isBlank (bOf n) then ({ m with st := 6 }, false) else if bOf n = 61 then ({ m with st := 7 }, false) else if bOf n = 47 then ({ mPut m with st := 11 }, false) else if bOf n = 62 then (mEnd (mPut m), false) else ({ mPut m with st := 4 }, true)) := hid (by rw [← hp]; unfold mTag; split <;> first | omega | rfl | (exfalso; revert hst; assumption))
  rw [hp]
  clear hp
  have c2 : w.cell? ⟨R, 2, none⟩ = some (.int .i64 6) := h.cell 2 (by unfold rcs; rw [hst]; rfl)
  have f2 := h.fz 2
  skip
  have Hbl := hid (fun W => (refBlank_any n h0 h1 W).mono fun e w' h => (⟨h.1, h.2.symm⟩ : e = _ ∧ w' = W))
  have Hlow := hid (fun W => low1_any n h0 h1 W)
  have H := hid h
  have Hrf := hid hrf
  have hRlt := h.lt
  clear h hrf hb
  by_cases hbl : isBlank (bOf n) = true
  · rw [hbl] at Hbl
    have Hq : Hid (p = ({ m with st := 6 }, false)) := hid (by rw [Hp.out, if_pos hbl])

    go_enter Try.func29, Try.ntmps29
    go_wp2_with (go_at_call 48; refine (Hbl.out _).mono ?_; rintro e2 w2 ⟨rfl, hw2⟩; subst w2)
    go_ret
    rw [Hq.out]
    exact ⟨rfl, Rf.rgs (m := m) (H.out.set 2 (.int .i64 6)) rfl rfl rfl rfl, H.out.bset (Below.refl _ _) 2 _⟩
  · have hbf : isBlank (bOf n) = false := by simpa using hbl
    rw [hbf] at Hbl
    clear hbl
    by_cases h61 : n = 61
    · subst h61
      have Hq : Hid (p = ({ m with st := 7 }, false)) := hid (by rw [Hp.out, hbf]; rfl)

      go_enter Try.func29, Try.ntmps29
      go_wp2_with (go_at_call 48; refine (Hbl.out _).mono ?_; rintro e2 w2 ⟨rfl, hw2⟩; subst w2)
      go_ret
      rw [Hq.out]
      exact ⟨rfl, Rf.rgs (m := m) (H.out.set 2 (.int .i64 7)) rfl rfl rfl rfl, H.out.bset (Below.refl _ _) 2 _⟩
    · have h61b : (n == 61) = false := beq_eq_false_iff_ne.2 h61
      have e61 := bOf_no n h0 h1 61 61 rfl h61
      by_cases h47 : n = 47
      · subst h47
        have Hq : Hid (p = ({ mPut m with st := 11 }, false)) := hid (by rw [Hp.out, hbf]; rfl)
        go_enter Try.func29, Try.ntmps29
        go_wp2_with (go_at_call 48; refine (Hbl.out _).mono ?_; rintro e2 w2 ⟨rfl, hw2⟩; subst w2)
        refine (hput.out _ Hrf.out).mono ?_
        rintro e w1 ⟨rfl, ⟨VO1, VT1, VA1, B1, hrf1⟩, hb1⟩
        have HP := hid hrf1
        have HB := hid hb1
        have g2 := hrf1.fz 2
        have k2 := hrf1.cell 2 rfl
        clear hrf1 hb1
        go_wp2
        go_ret
        rw [Hq.out]
        exact ⟨rfl, Rf.rgs (m := mPut m) (HP.out.set 2 (.int .i64 11)) rfl rfl rfl rfl, HP.out.bset HB.out 2 _⟩
      · have h47b : (n == 47) = false := beq_eq_false_iff_ne.2 h47
        have e47 := bOf_no n h0 h1 47 47 rfl h47
        by_cases h62 : n = 62
        · subst h62
          have Hq : Hid (p = (mEnd (mPut m), false)) := hid (by rw [Hp.out, hbf]; rfl)
          go_enter Try.func29, Try.ntmps29
          go_wp2_with (go_at_call 48; refine (Hbl.out _).mono ?_; rintro e2 w2 ⟨rfl, hw2⟩; subst w2)
          refine (hput.out _ Hrf.out).mono ?_
          rintro e w1 ⟨rfl, hrf1, hb1⟩
          have HB := hid hb1
          clear hb1
          go_wp2_with fail
          refine (hpend.out _ hrf1).mono ?_
          rintro e w2 ⟨rfl, hrf2, hb2'⟩
          go_wp2
          go_ret
          rw [Hq.out]
          exact ⟨rfl, hrf2, HB.out.trans hb2'⟩
        · have h62b : (n == 62) = false := beq_eq_false_iff_ne.2 h62
          have e62 := bOf_no n h0 h1 62 62 rfl h62
          have Hq : Hid (p = ({ mPut m with st := 4 }, true)) := hid (by rw [Hp.out, hbf, if_neg (by simp), if_neg e61, if_neg e47, if_neg e62])
          go_enter Try.func29, Try.ntmps29
          go_wp2_with (go_at_call 48; refine (Hbl.out _).mono ?_; rintro e2 w2 ⟨rfl, hw2⟩; subst w2)
          refine (hput.out _ Hrf.out).mono ?_
          rintro e w1 ⟨rfl, ⟨VO1, VT1, VA1, B1, hrf1⟩, hb1⟩
          have HP := hid hrf1
          have HB := hid hb1
          have g2 := hrf1.fz 2
          have k2 := hrf1.cell 2 rfl
          clear hrf1 hb1
          go_wp2
          go_ret
          rw [Hq.out]
          exact ⟨rfl, Rf.rgs (m := mPut m) (HP.out.set 2 (.int .i64 4)) rfl rfl rfl rfl, HP.out.bset HB.out 2 _⟩
set_option maxRecDepth 100000 in
set_option maxHeartbeats 6400000 in
theorem tag10_any (base R : Nat) (s : ByteArray) (m : Mc) (n : Int) (h0 : 0 ≤ n) (h1 : n ≤ 255) (hst : m.st = 10) (b : Nat) (w : World) (hb : Mb b m) (hb2 : b ≤ 399999) (h : Rf w base R s m) :
    Calls Try.prog 29 #[.pointer (some ⟨R, 0, none⟩), .int .u8 n] w (RM base R s w (mTag m (bOf n))) := by
  have hend := hid (fun W (h : Rf W base R s m) => end_any base R s m b W hb (by omega) h)
  have hput := hid (fun W (h : Rf W base R s m) => put_any base R s m b W hb (by omega) h)
  have hpend := hid (fun W (h : Rf W base R s (mPut m)) => end_any base R s (mPut m) (b + 1) W hb.put (by omega) h)
  have hrf := h
  obtain ⟨VO, VT, VA, B, h⟩ := h
  obtain ⟨p, hp⟩ : ∃ p, mTag m (bOf n) = p := ⟨_, rfl⟩
  have Hp : Hid (p = ({ m with st := 4 }, true)) := hid (by rw [← hp]; unfold mTag; split <;> first | omega | rfl | (exfalso; revert hst; assumption))
  rw [hp]
  clear hp
  have c2 : w.cell? ⟨R, 2, none⟩ = some (.int .i64 10) := h.cell 2 (by unfold rcs; rw [hst]; rfl)
  have f2 := h.fz 2
  skip
  have Hbl := hid (fun W => (refBlank_any n h0 h1 W).mono fun e w' h => (⟨h.1, h.2.symm⟩ : e = _ ∧ w' = W))
  have Hlow := hid (fun W => low1_any n h0 h1 W)
  have H := hid h
  have Hrf := hid hrf
  have hRlt := h.lt
  clear h hrf hb
  obtain ⟨q, hq⟩ : ∃ q, isBlank (bOf n) = q := ⟨_, rfl⟩
  rw [hq] at Hbl
  clear hq
  have Hq : Hid (p = ({ m with st := 4 }, true)) := hid (by exact Hp.out)

  go_enter Try.func29, Try.ntmps29
  go_wp2_with (go_at_call 48; refine (Hbl.out _).mono ?_; rintro e2 w2 ⟨rfl, hw2⟩; subst w2)
  go_ret
  rw [Hq.out]
  exact ⟨rfl, Rf.rgs (m := m) (H.out.set 2 (.int .i64 4)) rfl rfl rfl rfl, H.out.bset (Below.refl _ _) 2 _⟩
set_option maxRecDepth 100000 in
set_option maxHeartbeats 6400000 in
theorem tag11_any (base R : Nat) (s : ByteArray) (m : Mc) (n : Int) (h0 : 0 ≤ n) (h1 : n ≤ 255) (hst : m.st = 11) (b : Nat) (w : World) (hb : Mb b m) (hb2 : b ≤ 399999) (h : Rf w base R s m) :
    Calls Try.prog 29 #[.pointer (some ⟨R, 0, none⟩), .int .u8 n] w (RM base R s w (mTag m (bOf n))) := by
  have hend := hid (fun W (h : Rf W base R s m) => end_any base R s m b W hb (by omega) h)
  have hput := hid (fun W (h : Rf W base R s m) => put_any base R s m b W hb (by omega) h)
  have hpend := hid (fun W (h : Rf W base R s (mPut m)) => end_any base R s (mPut m) (b + 1) W hb.put (by omega) h)
  have hrf := h
  obtain ⟨VO, VT, VA, B, h⟩ := h
  obtain ⟨p, hp⟩ : ∃ p, mTag m (bOf n) = p := ⟨_, rfl⟩
  have Hp : Hid (p = if bOf n = 62 then (mEnd { m with tag := { m.tag with c := true } }, false) else ({ m with st := 4 }, true)) := hid (by rw [← hp]; unfold mTag; split <;> first | omega | rfl | (exfalso; revert hst; assumption))
  rw [hp]
  clear hp
  have c2 : w.cell? ⟨R, 2, none⟩ = some (.int .i64 11) := h.cell 2 (by unfold rcs; rw [hst]; rfl)
  have f2 := h.fz 2
  have hendc := hid (fun W (h : Rf W base R s { m with tag := { m.tag with c := true } }) => end_any base R s { m with tag := { m.tag with c := true } } b W ⟨hb.text, hb.n, hb.a1, hb.a2, hb.raw, hb.out, hb.ats⟩ (by omega) h)
  have f8 := h.fz 8
  have c8 := h.cell 8 rfl
  have Hbl := hid (fun W => (refBlank_any n h0 h1 W).mono fun e w' h => (⟨h.1, h.2.symm⟩ : e = _ ∧ w' = W))
  have Hlow := hid (fun W => low1_any n h0 h1 W)
  have H := hid h
  have Hrf := hid hrf
  have hRlt := h.lt
  clear h hrf hb
  obtain ⟨q, hq⟩ : ∃ q, isBlank (bOf n) = q := ⟨_, rfl⟩
  rw [hq] at Hbl
  clear hq
  by_cases h62 : n = 62
  · subst h62
    have Hq : Hid (p = (mEnd { m with tag := { m.tag with c := true } }, false)) := hid (by rw [Hp.out]; rfl)
    go_enter Try.func29, Try.ntmps29
    go_wp2_with (go_at_call 48; refine (Hbl.out _).mono ?_; rintro e2 w2 ⟨rfl, hw2⟩; subst w2)
    refine (hendc.out _ (Rf.rgs (m := m) (H.out.set 8 (.bool true)) rfl rfl rfl rfl)).mono ?_
    rintro e w1 ⟨rfl, hrf1, hb1⟩
    go_wp2
    go_ret
    rw [Hq.out]
    exact ⟨rfl, hrf1, (H.out.bset (Below.refl _ _) 8 _).trans hb1⟩
  · have h62b : (n == 62) = false := beq_eq_false_iff_ne.2 h62
    have e62 := bOf_no n h0 h1 62 62 rfl h62
    have Hq : Hid (p = ({ m with st := 4 }, true)) := hid (by rw [Hp.out, if_neg e62])

    go_enter Try.func29, Try.ntmps29
    go_wp2_with (go_at_call 48; refine (Hbl.out _).mono ?_; rintro e2 w2 ⟨rfl, hw2⟩; subst w2)
    go_ret
    rw [Hq.out]
    exact ⟨rfl, Rf.rgs (m := m) (H.out.set 2 (.int .i64 4)) rfl rfl rfl rfl, H.out.bset (Below.refl _ _) 2 _⟩
end Go.Proofs.Ytihgmgpcdodknaa
/- (*muslinref12.Reader).val. -/
namespace Go.Proofs.Ytihgmgpcdodknaa
open Go.RowKit

set_option maxRecDepth 100000 in
set_option maxHeartbeats 6400000 in
theorem val7_any (base R : Nat) (s : ByteArray) (m : Mc) (n : Int) (h0 : 0 ≤ n) (h1 : n ≤ 255) (hst : m.st = 7) (b : Nat) (w : World) (hb : Mb b m) (hb2 : b ≤ 399999) (h : Rf w base R s m) :
    Calls Try.prog 30 #[.pointer (some ⟨R, 0, none⟩), .int .u8 n] w (RM base R s w (mVal m (bOf n))) := by
  have hend := hid (fun W (h : Rf W base R s m) => end_any base R s m b W hb (by omega) h)
  have hput := hid (fun W (h : Rf W base R s m) => put_any base R s m b W hb (by omega) h)
  have hpend := hid (fun W (h : Rf W base R s (mPut m)) => end_any base R s (mPut m) (b + 1) W hb.put (by omega) h)
  have hrf := h
  obtain ⟨VO, VT, VA, B, h⟩ := h
  obtain ⟨p, hp⟩ : ∃ p, mVal m (bOf n) = p := ⟨_, rfl⟩
  have Hp : Hid (p = if isBlank (bOf n) then (m, false) else if bOf n = 34 ∨ bOf n = 39 then ({ m with st := 8, quote := bOf n }, false) else if bOf n = 62 then (mEnd (mPut m), false) else ({ m with st := 9 }, true)) := hid (by rw [← hp]; unfold mVal; split <;> first | omega | rfl | (exfalso; revert hst; assumption))
  rw [hp]
  clear hp
  have c2 : w.cell? ⟨R, 2, none⟩ = some (.int .i64 7) := h.cell 2 (by unfold rcs; rw [hst]; rfl)
  have f2 := h.fz 2
  skip
  have Hbl := hid (fun W => (refBlank_any n h0 h1 W).mono fun e w' h => (⟨h.1, h.2.symm⟩ : e = _ ∧ w' = W))
  have Hlow := hid (fun W => low1_any n h0 h1 W)
  have H := hid h
  have Hrf := hid hrf
  have hRlt := h.lt
  clear h hrf hb
  by_cases hbl : isBlank (bOf n) = true
  · rw [hbl] at Hbl
    have Hq : Hid (p = (m, false)) := hid (by rw [Hp.out, if_pos hbl])
    go_enter Try.func30, Try.ntmps30
    go_wp2_with (go_at_call 48; refine (Hbl.out _).mono ?_; rintro e2 w2 ⟨rfl, hw2⟩; subst w2)
    go_ret
    rw [Hq.out]
    exact ⟨rfl, Hrf.out, Below.refl _ _⟩
  · have hbf : isBlank (bOf n) = false := by simpa using hbl
    rw [hbf] at Hbl
    clear hbl
    by_cases h34 : n = 34
    · subst h34
      have Hq : Hid (p = ({ m with st := 8, quote := bOf 34 }, false)) := hid (by rw [Hp.out, hbf]; rfl)
      have f11 := H.out.fz 11
      have c11 := H.out.cell 11 rfl
      go_enter Try.func30, Try.ntmps30
      go_wp2_with (go_at_call 48; refine (Hbl.out _).mono ?_; rintro e2 w2 ⟨rfl, hw2⟩; subst w2)
      go_ret
      rw [Hq.out]
      exact ⟨rfl, Rf.rgs (m := m) ((H.out.set 2 (.int .i64 8)).set 11 (.int .u8 34)) rfl rfl rfl rfl, (H.out.set 2 (.int .i64 8)).bset (H.out.bset (Below.refl _ _) 2 _) 11 _⟩
    · have h34b : (n == 34) = false := beq_eq_false_iff_ne.2 h34
      have e34 := bOf_no n h0 h1 34 34 rfl h34
      by_cases h39 : n = 39
      · subst h39
        have Hq : Hid (p = ({ m with st := 8, quote := bOf 39 }, false)) := hid (by rw [Hp.out, hbf]; rfl)
        have f11 := H.out.fz 11
        have c11 := H.out.cell 11 rfl
        go_enter Try.func30, Try.ntmps30
        go_wp2_with (go_at_call 48; refine (Hbl.out _).mono ?_; rintro e2 w2 ⟨rfl, hw2⟩; subst w2)
        go_ret
        rw [Hq.out]
        exact ⟨rfl, Rf.rgs (m := m) ((H.out.set 2 (.int .i64 8)).set 11 (.int .u8 39)) rfl rfl rfl rfl, (H.out.set 2 (.int .i64 8)).bset (H.out.bset (Below.refl _ _) 2 _) 11 _⟩
      · have h39b : (n == 39) = false := beq_eq_false_iff_ne.2 h39
        have e39 := bOf_no n h0 h1 39 39 rfl h39
        by_cases h62 : n = 62
        · subst h62
          have Hq : Hid (p = (mEnd (mPut m), false)) := hid (by rw [Hp.out, hbf]; rfl)
          go_enter Try.func30, Try.ntmps30
          go_wp2_with (go_at_call 48; refine (Hbl.out _).mono ?_; rintro e2 w2 ⟨rfl, hw2⟩; subst w2)
          refine (hput.out _ Hrf.out).mono ?_
          rintro e w1 ⟨rfl, hrf1, hb1⟩
          have HB := hid hb1
          clear hb1
          go_wp2_with fail
          refine (hpend.out _ hrf1).mono ?_
          rintro e w2 ⟨rfl, hrf2, hb2'⟩
          go_wp2
          go_ret
          rw [Hq.out]
          exact ⟨rfl, hrf2, HB.out.trans hb2'⟩
        · have h62b : (n == 62) = false := beq_eq_false_iff_ne.2 h62
          have e62 := bOf_no n h0 h1 62 62 rfl h62
          have Hq : Hid (p = ({ m with st := 9 }, true)) := hid (by rw [Hp.out, hbf, if_neg (by simp), if_neg (by rintro (e | e); exact e34 e; exact e39 e), if_neg e62])

          go_enter Try.func30, Try.ntmps30
          go_wp2_with (go_at_call 48; refine (Hbl.out _).mono ?_; rintro e2 w2 ⟨rfl, hw2⟩; subst w2)
          go_ret
          rw [Hq.out]
          exact ⟨rfl, Rf.rgs (m := m) (H.out.set 2 (.int .i64 9)) rfl rfl rfl rfl, H.out.bset (Below.refl _ _) 2 _⟩
set_option maxRecDepth 100000 in
set_option maxHeartbeats 6400000 in
theorem val8_any (base R : Nat) (s : ByteArray) (m : Mc) (n : Int) (h0 : 0 ≤ n) (h1 : n ≤ 255) (hst : m.st = 8) (b : Nat) (w : World) (hb : Mb b m) (hb2 : b ≤ 399999) (h : Rf w base R s m) :
    Calls Try.prog 30 #[.pointer (some ⟨R, 0, none⟩), .int .u8 n] w (RM base R s w (mVal m (bOf n))) := by
  have hend := hid (fun W (h : Rf W base R s m) => end_any base R s m b W hb (by omega) h)
  have hput := hid (fun W (h : Rf W base R s m) => put_any base R s m b W hb (by omega) h)
  have hpend := hid (fun W (h : Rf W base R s (mPut m)) => end_any base R s (mPut m) (b + 1) W hb.put (by omega) h)
  have hrf := h
  obtain ⟨VO, VT, VA, B, h⟩ := h
  obtain ⟨p, hp⟩ : ∃ p, mVal m (bOf n) = p := ⟨_, rfl⟩
  have Hp : Hid (p = if bOf n = m.quote then ({ mPut m with st := 10 }, false) else ({ m with a := (m.a.1, m.a.2 ++ [bOf n]) }, false)) := hid (by rw [← hp]; unfold mVal; split <;> first | omega | rfl | (exfalso; revert hst; assumption))
  rw [hp]
  clear hp
  have c2 : w.cell? ⟨R, 2, none⟩ = some (.int .i64 8) := h.cell 2 (by unfold rcs; rw [hst]; rfl)
  have f2 := h.fz 2
  obtain ⟨nm, hnm⟩ : ∃ x, bs m.a.2 = x := ⟨_, rfl⟩
  have c5 : w.cell? ⟨R, 10, none⟩ = some (.string nm) := h.cell 10 (by rw [← hnm]; rfl)
  have f5 := h.fz 10
  have hns : nm.size ≤ b := by rw [← hnm]; exact hb.a2
  have Hnm := hid hnm
  clear hnm
  have Hbl := hid (fun W => (refBlank_any n h0 h1 W).mono fun e w' h => (⟨h.1, h.2.symm⟩ : e = _ ∧ w' = W))
  have Hlow := hid (fun W => low1_any n h0 h1 W)
  have H := hid h
  have Hrf := hid hrf
  have hRlt := h.lt
  clear h hrf hb
  obtain ⟨q, hq⟩ : ∃ q : Int, (m.quote.toNat : Int) = q := ⟨_, rfl⟩
  have c11 : w.cell? ⟨R, 11, none⟩ = some (.int .u8 q) := H.out.cell 11 (by rw [← hq]; rfl)
  have hqq : m.quote = bOf q := by rw [← hq, bOf_cast]
  by_cases hnq : n = q
  · subst hnq
    have Hq1 := hid hqq
    clear hq hqq
    have Hq : Hid (p = ({ mPut m with st := 10 }, false)) := hid (by rw [Hp.out, Hq1.out, if_pos rfl])
    go_enter Try.func30, Try.ntmps30
    go_wp2_with fail
    refine (hput.out _ Hrf.out).mono ?_
    rintro e w1 ⟨rfl, ⟨VO1, VT1, VA1, B1, hrf1⟩, hb1⟩
    have HP := hid hrf1
    have HB := hid hb1
    have g2 := hrf1.fz 2
    have k2 := hrf1.cell 2 rfl
    clear hrf1 hb1
    go_wp2
    go_ret
    rw [Hq.out]
    exact ⟨rfl, Rf.rgs (m := mPut m) (HP.out.set 2 (.int .i64 10)) rfl rfl rfl rfl, HP.out.bset HB.out 2 _⟩
  · have hnb : (n == q) = false := beq_eq_false_iff_ne.2 hnq
    have hne : bOf n ≠ m.quote := by
      intro e
      apply hnq
      have := bOf_toNat n h0 h1
      rw [e] at this
      omega
    clear hq hqq
    have Hq : Hid (p = ({ m with a := (m.a.1, m.a.2 ++ [bOf n]) }, false)) := hid (by rw [Hp.out, if_neg hne])
    have hcv := one_back w n h0 h1
    have hcv2 : (convert 50 9 (.slice (some ⟨w.heap.size, 0, none⟩) 1 1)).run Try.prog (w.alloc (.cells #[.int .u8 n] 5)).drew = .ok (.string ⟨#[bOf n]⟩) (w.alloc (.cells #[.int .u8 n] 5)).drew := one_back w.drew n h0 h1
    have hct : ¬ 9223372036854775807 < nm.size + 1 := low_room nm ⟨#[bOf n]⟩ (bOf n) b hns (by omega) rfl
    have d5 : (w.alloc (.cells #[.int .u8 n] 5)).cell? ⟨R, 10, none⟩ = some (.string nm) := (World.cell?_alloc_lt _ _ _ hRlt).trans c5
    have df : (w.alloc (.cells #[.int .u8 n] 5)).frozen? ⟨R, 10, none⟩ = false := ((alloc_below w _).frozen (p := ⟨R, 10, none⟩) hRlt).trans f5
    go_enter Try.func30, Try.ntmps30
    go_wp2_with fail
    refine wp_region_noPanic ?_
    go_region_law (fail)
    all_goals
      refine NoPanic.normal ?_
      clear hct d5 df
      have hz2 : nm ++ (⟨#[bOf n]⟩ : ByteArray) = bs (m.a.2 ++ [bOf n]) := bs_of (by rw [data_append, ← Hnm.out, bs_list])
      have H2 := hid (((H.out.set 10 (.string (bs (m.a.2 ++ [bOf n])))).alloc (.cells #[.int .u8 n] 5)).drew)
      have HB2 := hid ((H.out.set 10 (.string (bs (m.a.2 ++ [bOf n])))).bkeep (H.out.bset (Below.refl base _) 10 _) ((alloc_below (w.setCell ⟨R, 10, none⟩ (.string (bs (m.a.2 ++ [bOf n])))) (.cells #[.int .u8 n] 5)).drew))
      go_wp2
      go_ret
      rw [Hq.out, hz2]
      exact ⟨rfl, Rf.rgs (m := m) H2.out rfl rfl rfl rfl, HB2.out⟩
set_option maxRecDepth 100000 in
set_option maxHeartbeats 6400000 in
theorem val9_any (base R : Nat) (s : ByteArray) (m : Mc) (n : Int) (h0 : 0 ≤ n) (h1 : n ≤ 255) (hst : m.st = 9) (b : Nat) (w : World) (hb : Mb b m) (hb2 : b ≤ 399999) (h : Rf w base R s m) :
    Calls Try.prog 30 #[.pointer (some ⟨R, 0, none⟩), .int .u8 n] w (RM base R s w (mVal m (bOf n))) := by
  have hend := hid (fun W (h : Rf W base R s m) => end_any base R s m b W hb (by omega) h)
  have hput := hid (fun W (h : Rf W base R s m) => put_any base R s m b W hb (by omega) h)
  have hpend := hid (fun W (h : Rf W base R s (mPut m)) => end_any base R s (mPut m) (b + 1) W hb.put (by omega) h)
  have hrf := h
  obtain ⟨VO, VT, VA, B, h⟩ := h
  obtain ⟨p, hp⟩ : ∃ p, mVal m (bOf n) = p := ⟨_, rfl⟩
  have Hp : Hid (p = if isBlank (bOf n) ∨ bOf n = 62 then ({ mPut m with st := 4 }, true) else ({ m with a := (m.a.1, m.a.2 ++ [bOf n]) }, false)) := hid (by rw [← hp]; unfold mVal; split <;> first | omega | rfl | (exfalso; revert hst; assumption))
  rw [hp]
  clear hp
  have c2 : w.cell? ⟨R, 2, none⟩ = some (.int .i64 9) := h.cell 2 (by unfold rcs; rw [hst]; rfl)
  have f2 := h.fz 2
  obtain ⟨nm, hnm⟩ : ∃ x, bs m.a.2 = x := ⟨_, rfl⟩
  have c5 : w.cell? ⟨R, 10, none⟩ = some (.string nm) := h.cell 10 (by rw [← hnm]; rfl)
  have f5 := h.fz 10
  have hns : nm.size ≤ b := by rw [← hnm]; exact hb.a2
  have Hnm := hid hnm
  clear hnm
  have Hbl := hid (fun W => (refBlank_any n h0 h1 W).mono fun e w' h => (⟨h.1, h.2.symm⟩ : e = _ ∧ w' = W))
  have Hlow := hid (fun W => low1_any n h0 h1 W)
  have H := hid h
  have Hrf := hid hrf
  have hRlt := h.lt
  clear h hrf hb
  by_cases hbl : isBlank (bOf n) = true
  · rw [hbl] at Hbl
    have Hq : Hid (p = ({ mPut m with st := 4 }, true)) := hid (by rw [Hp.out, if_pos (.inl hbl)])
    go_enter Try.func30, Try.ntmps30
    go_wp2_with (go_at_call 48; refine (Hbl.out _).mono ?_; rintro e2 w2 ⟨rfl, hw2⟩; subst w2)
    refine (hput.out _ Hrf.out).mono ?_
    rintro e w1 ⟨rfl, ⟨VO1, VT1, VA1, B1, hrf1⟩, hb1⟩
    have HP := hid hrf1
    have HB := hid hb1
    have g2 := hrf1.fz 2
    have k2 := hrf1.cell 2 rfl
    clear hrf1 hb1
    go_wp2
    go_ret
    rw [Hq.out]
    exact ⟨rfl, Rf.rgs (m := mPut m) (HP.out.set 2 (.int .i64 4)) rfl rfl rfl rfl, HP.out.bset HB.out 2 _⟩
  · have hbf : isBlank (bOf n) = false := by simpa using hbl
    rw [hbf] at Hbl
    clear hbl
    by_cases h62 : n = 62
    · subst h62
      have Hq : Hid (p = ({ mPut m with st := 4 }, true)) := hid (by rw [Hp.out, if_pos (.inr rfl)])
      go_enter Try.func30, Try.ntmps30
      go_wp2_with (go_at_call 48; refine (Hbl.out _).mono ?_; rintro e2 w2 ⟨rfl, hw2⟩; subst w2)
      refine (hput.out _ Hrf.out).mono ?_
      rintro e w1 ⟨rfl, ⟨VO1, VT1, VA1, B1, hrf1⟩, hb1⟩
      have HP := hid hrf1
      have HB := hid hb1
      have g2 := hrf1.fz 2
      have k2 := hrf1.cell 2 rfl
      clear hrf1 hb1
      go_wp2
      go_ret
      rw [Hq.out]
      exact ⟨rfl, Rf.rgs (m := mPut m) (HP.out.set 2 (.int .i64 4)) rfl rfl rfl rfl, HP.out.bset HB.out 2 _⟩
    · have h62b : (n == 62) = false := beq_eq_false_iff_ne.2 h62
      have e62 := bOf_no n h0 h1 62 62 rfl h62
      have Hq : Hid (p = ({ m with a := (m.a.1, m.a.2 ++ [bOf n]) }, false)) := hid (by rw [Hp.out, hbf, if_neg (by rintro (e | e); cases e; exact e62 e)])
      have hcv := one_back w n h0 h1
      have hcv2 : (convert 50 9 (.slice (some ⟨w.heap.size, 0, none⟩) 1 1)).run Try.prog (w.alloc (.cells #[.int .u8 n] 5)).drew = .ok (.string ⟨#[bOf n]⟩) (w.alloc (.cells #[.int .u8 n] 5)).drew := one_back w.drew n h0 h1
      have hct : ¬ 9223372036854775807 < nm.size + 1 := low_room nm ⟨#[bOf n]⟩ (bOf n) b hns (by omega) rfl
      have d5 : (w.alloc (.cells #[.int .u8 n] 5)).cell? ⟨R, 10, none⟩ = some (.string nm) := (World.cell?_alloc_lt _ _ _ hRlt).trans c5
      have df : (w.alloc (.cells #[.int .u8 n] 5)).frozen? ⟨R, 10, none⟩ = false := ((alloc_below w _).frozen (p := ⟨R, 10, none⟩) hRlt).trans f5
      go_enter Try.func30, Try.ntmps30
      go_wp2_with (go_at_call 48; refine (Hbl.out _).mono ?_; rintro e2 w2 ⟨rfl, hw2⟩; subst w2)
      refine wp_region_noPanic ?_
      go_region_law (fail)
      all_goals
        refine NoPanic.normal ?_
        clear hct d5 df
        have hz2 : nm ++ (⟨#[bOf n]⟩ : ByteArray) = bs (m.a.2 ++ [bOf n]) := bs_of (by rw [data_append, ← Hnm.out, bs_list])
        have H2 := hid (((H.out.set 10 (.string (bs (m.a.2 ++ [bOf n])))).alloc (.cells #[.int .u8 n] 5)).drew)
        have HB2 := hid ((H.out.set 10 (.string (bs (m.a.2 ++ [bOf n])))).bkeep (H.out.bset (Below.refl base _) 10 _) ((alloc_below (w.setCell ⟨R, 10, none⟩ (.string (bs (m.a.2 ++ [bOf n])))) (.cells #[.int .u8 n] 5)).drew))
        go_wp2
        go_ret
        rw [Hq.out, hz2]
        exact ⟨rfl, Rf.rgs (m := m) H2.out rfl rfl rfl rfl, HB2.out⟩
end Go.Proofs.Ytihgmgpcdodknaa
/- Plain: the machine's lengths grow by one at most a step. -/
namespace Go.Proofs.Ytihgmgpcdodknaa
open Go.RowKit

theorem Mb.text_ {b : Nat} {m : Mc} (h : Mb b m) (d : Bool) : Mb (b + 1) (mText m d) := by
  have h' := h.up (Nat.le_succ b)
  refine ⟨Nat.zero_le _, h'.n, h'.a1, h'.a2, h'.raw, ?_, h'.ats⟩
  have := h.out
  obtain ⟨z, hz⟩ : ∃ z, (if d = true then decL m.text else m.text) = z := ⟨_, rfl⟩
  unfold mText
  rw [hz]
  dsimp only
  split
  · omega
  · rw [List.length_append, List.length_singleton]; omega
theorem Mb.put_ {b : Nat} {m : Mc} (h : Mb b m) : Mb (b + 1) (mPut m) :=
  ⟨Nat.le_succ_of_le h.text, Nat.le_succ_of_le h.n, Nat.zero_le _, Nat.zero_le _, Nat.le_succ_of_le h.raw, Nat.le_succ_of_le h.out, by show (m.tag.ats ++ [(m.a.1, decL m.a.2)]).length ≤ _; rw [List.length_append, List.length_singleton]; have := h.ats; omega⟩
theorem mTok_n (t : Tk) : (mTok t).n = t.n := by unfold mTok; split <;> rfl
theorem Mb.end_ {b : Nat} {m : Mc} (h : Mb b m) : Mb (b + 1) (mEnd m) := by
  have h' := h.up (Nat.le_succ b)
  have ho : (m.out ++ [mTok m.tag]).length ≤ b + 1 := by rw [List.length_append, List.length_singleton]; have := h.out; omega
  unfold mEnd
  split
  · exact ⟨h'.text, Nat.zero_le _, h'.a1, h'.a2, by show (mTok m.tag).n.length ≤ _; rw [mTok_n]; exact h'.n, ho, Nat.zero_le _⟩
  · exact ⟨h'.text, Nat.zero_le _, h'.a1, h'.a2, h'.raw, ho, Nat.zero_le _⟩
theorem mEnd_put (m : Mc) {b : Nat} (h : Mb b m) : Mb (b + 1) (mEnd (mPut m)) := by
  have h' := h.up (Nat.le_succ b)
  have ho : ((mPut m).out ++ [mTok (mPut m).tag]).length ≤ b + 1 := by rw [List.length_append, List.length_singleton]; have := h.out; show m.out.length + 1 ≤ _; omega
  unfold mEnd
  split
  · exact ⟨h'.text, Nat.zero_le _, Nat.zero_le _, Nat.zero_le _, by show (mTok (mPut m).tag).n.length ≤ _; rw [mTok_n]; exact h'.n, ho, Nat.zero_le _⟩
  · exact ⟨h'.text, Nat.zero_le _, Nat.zero_le _, Nat.zero_le _, h'.raw, ho, Nat.zero_le _⟩
theorem mb_state {b : Nat} {m : Mc} (h : Mb b m) (q : Nat) : Mb b { m with st := q } := ⟨h.text, h.n, h.a1, h.a2, h.raw, h.out, h.ats⟩
theorem mb_add {b : Nat} {l : List UInt8} {c : UInt8} (h : l.length ≤ b) : (l ++ [c]).length ≤ b + 1 := by rw [List.length_append, List.length_singleton]; omega
theorem Mb.tag_ {b : Nat} {m : Mc} (h : Mb b m) (c : UInt8) : Mb (b + 1) (mTag m c).1 := by
  have h' := h.up (Nat.le_succ b)
  have hn : Mb (b + 1) { m with tag := { m.tag with n := m.tag.n ++ [lowB c] } } := ⟨h'.text, mb_add h.n, h'.a1, h'.a2, h'.raw, h'.out, h'.ats⟩
  have ha : Mb (b + 1) { m with a := (m.a.1 ++ [lowB c], m.a.2) } := ⟨h'.text, h'.n, mb_add h.a1, h'.a2, h'.raw, h'.out, h'.ats⟩
  have ha0 : Mb (b + 1) { m with st := 5, a := ([lowB c], []) } := ⟨h'.text, h'.n, by show 1 ≤ _; omega, Nat.zero_le _, h'.raw, h'.out, h'.ats⟩
  have hc : Mb b { m with tag := { m.tag with c := true } } := ⟨h.text, h.n, h.a1, h.a2, h.raw, h.out, h.ats⟩
  unfold mTag
  split
  · split
    · exact mb_state h' _
    · split
      · exact mb_state h' _
      · split
        · exact h.end_
        · exact hn
  · split
    · exact h'
    · split
      · exact mb_state h' _
      · split
        · exact h.end_
        · exact ha0
  · split
    · exact mb_state h' _
    · split
      · exact mb_state h' _
      · split
        · exact mb_state h.put_ _
        · split
          · exact mEnd_put m h
          · exact ha
  · split
    · exact mb_state h' _
    · split
      · exact mb_state h' _
      · split
        · exact mb_state h.put_ _
        · split
          · exact mEnd_put m h
          · exact mb_state h.put_ _
  · exact mb_state h' _
  · split
    · exact hc.end_
    · exact mb_state h' _
  · exact h'
theorem Mb.val_ {b : Nat} {m : Mc} (h : Mb b m) (c : UInt8) : Mb (b + 1) (mVal m c).1 := by
  have h' := h.up (Nat.le_succ b)
  have ha : Mb (b + 1) { m with a := (m.a.1, m.a.2 ++ [c]) } := ⟨h'.text, h'.n, h'.a1, mb_add h.a2, h'.raw, h'.out, h'.ats⟩
  have hq : Mb (b + 1) { m with st := 8, quote := c } := ⟨h'.text, h'.n, h'.a1, h'.a2, h'.raw, h'.out, h'.ats⟩
  unfold mVal
  split
  · split
    · exact h'
    · split
      · exact hq
      · split
        · exact mEnd_put m h
        · exact mb_state h' _
  · split
    · exact mb_state h.put_ _
    · exact ha
  · split
    · exact mb_state h.put_ _
    · exact ha
  · exact h'
theorem Mb.out_ {b : Nat} {m : Mc} (h : Mb b m) (c : UInt8) (r : List UInt8) : Mb (b + 1) (mOut m c r).1 := by
  have h' := h.up (Nat.le_succ b)
  have ht : Mb (b + 1) { m with text := m.text ++ [c] } := ⟨mb_add h.text, h'.n, h'.a1, h'.a2, h'.raw, h'.out, h'.ats⟩
  have htag : ∀ k, Mb (b + 1) { m with st := 3, tag := { tk0 with k := k } } := fun k => ⟨h'.text, Nat.zero_le _, h'.a1, h'.a2, h'.raw, h'.out, Nat.zero_le _⟩
  have hcom : Mb (b + 1) { m with out := m.out ++ [⟨4, [], m.text, [], false⟩], text := [], st := 0 } := ⟨Nat.zero_le _, h'.n, h'.a1, h'.a2, h'.raw, by show (m.out ++ [_]).length ≤ _; rw [List.length_append, List.length_singleton]; have := h.out; omega, h'.ats⟩
  unfold mOut
  split
  · split
    · exact mb_state (h.text_ true) _
    · exact ht
  · split
    · exact mb_state h' _
    · split
      · exact mb_state h' _
      · split
        · exact mb_state h' _
        · exact htag 1
  · split
    · exact htag 2
    · split
      · exact mb_state h' _
      · exact mb_state h' _
  · split
    · exact mb_state h' _
    · exact mb_state h' _
  · split
    · exact mb_state h' _
    · exact h'
  · split
    · exact hcom
    · exact ht
  · split
    · have hT := h.text_ (m.kind == 1)
      exact ⟨hT.text, by show (low (((c :: r).drop 2).take m.raw.length)).length ≤ _; rw [low_length, List.length_take]; have := h'.raw; omega, hT.a1, hT.a2, hT.raw, hT.out, Nat.zero_le _⟩
    · exact ht
  · exact h'
theorem Mb.step_ {b : Nat} {m : Mc} (h : Mb b m) (c : UInt8) (r : List UInt8) : Mb (b + 1) (mStep m c r).1 := by
  unfold mStep
  split
  · exact h.tag_ c
  · split
    · exact h.val_ c
    · exact h.out_ c r
theorem mb0 : Mb 0 mc0 := ⟨Nat.zero_le _, Nat.zero_le _, Nat.zero_le _, Nat.zero_le _, Nat.zero_le _, Nat.zero_le _, Nat.zero_le _⟩
end Go.Proofs.Ytihgmgpcdodknaa
/- (*muslinref12.Reader).outside. -/
namespace Go.Proofs.Ytihgmgpcdodknaa
open Go.RowKit

/-- what a step outside of tags answers -/
def RN (base R : Nat) (s : ByteArray) (w : World) (p : Mc × Nat) (e : Ending) (w' : World) : Prop := (∃ k : Int, e = .returned (.int .i64 k) ∧ Hid (k = (p.2 : Int))) ∧ Rf w' base R s p.1 ∧ Below base w w'
section
variable {w w' : World} {base R : Nat} {cs : Array Value} {VO VT VA : Value} {B : Nat} {O : List Tk} {X : List UInt8} {A : List Att}
/-- the reader behind 'r.State, r.Tag = name, api.Token{..}' -/
def setT (w : World) (R : Nat) (k : Int) (n : ByteArray) : World := ((((((w.setCell ⟨R, 2, none⟩ (.int .i64 3)).setCell ⟨R, 4, none⟩ (.int .i64 k)).setCell ⟨R, 5, none⟩ (.string n)).setCell ⟨R, 6, none⟩ (.string ⟨#[]⟩)).setCell ⟨R, 7, none⟩ (.slice none 0 0)).setCell ⟨R, 8, none⟩ (.bool false))
theorem Rg.tagS (h : Rg w base R cs VO VT VA B O X A) (k : Int) (n : ByteArray) : Rg (setT w R k n) base R
    ((((((cs.setIfInBounds 2 (.int .i64 3)).setIfInBounds 4 (.int .i64 k)).setIfInBounds 5 (.string n)).setIfInBounds 6 (.string ⟨#[]⟩)).setIfInBounds 7 (.slice none 0 0)).setIfInBounds 8 (.bool false)) VO VT (.slice none 0 0) B O X [] :=
  ((((((h.set 2 _).set 4 _).set 5 _).set 6 _).set 7 _).set 8 _).dropA
theorem Rg.btagS (h : Rg w base R cs VO VT VA B O X A) {w0 : World} (hb : Below base w0 w) (k : Int) (n : ByteArray) : Below base w0 (setT w R k n) :=
  below_set (below_set (below_set (below_set (below_set (below_set hb _ _ h.hR) _ _ h.hR) _ _ h.hR) _ _ h.hR) _ _ h.hR) _ _ h.hR
end
theorem dataOpen_cons (d : UInt8) (r : List UInt8) : dataOpen (d :: r) = (isLetter d || d == 33 || d == 63 || (d == 47 && !r.isEmpty)) := rfl
/-- append(text, c) where c lies in a block of its own -/
theorem wpl_oct {ops : Array Oper} {rest : List Oper} {o : Oper} {a : Act} {Q : Exit → Act → World → Prop} (hgd : o.guard = none) (s x : Operand)
    (ho : o.op = .call { callee := .builtin .append, args := #[s, x], argTypes := #[50, 50] })
    (base : Nat) (v : Value) (l : List UInt8) (n : Int) (W : World) (hown : OwnB W base v l) (hs : a.eval s = v) (hx : a.eval x = .slice (some ⟨W.heap.size, 0, none⟩) 1 1)
    (h0 : 0 ≤ n) (h1 : n ≤ 255) (hlen : l.length + 1 ≤ 1099511627776) (hbase : base ≤ W.heap.size)
    (h : ∀ v' w', OwnB w' base v' (l ++ [bOf n]) → (W.alloc (.cells #[.int .u8 n] 5)).grownBy w' v.ownBlock → wpList Try.prog ops Q rest (a.put o.dst v') w') : wpList Try.prog ops Q (o :: rest) a (W.alloc (.cells #[.int .u8 n] 5)) := by
  refine wpl_push hgd s x ho base v l hs (hown.alloc _) W.heap.size 1 [bOf n] 1 rfl hx (one_new W n _ h0 h1) hlen (by simp; omega) ?_
  intro v' w' h2 h3
  exact h v' w' h2 h3
theorem OwnB.shapeV {w : World} {base : Nat} {v : Value} {l : List UInt8} (h : OwnB w base v l) {n : Nat} (hn : l.length = n) : ∃ A c, v = .slice A n c := by
  subst hn
  exact OwnB.shape h
theorem OwnB.lo_ {w : World} {base : Nat} {v : Value} {l : List UInt8} (h : OwnB w base v l) : ∀ g, v.ownBlock = some g → base ≤ g := fun g e => (World.ownsRow.lt h g e).1

set_option maxRecDepth 100000 in
set_option maxHeartbeats 6400000 in
theorem out0_any (base R : Nat) (s : ByteArray) (m : Mc) (i : Nat) (hlt : i < s.size) (hs : s.size ≤ 65536) (hst : m.st = 0) (b : Nat) (w : World) (hb : Mb b m) (hb2 : b ≤ 399999) (h : Rf w base R s m) :
    Calls Try.prog 31 #[.pointer (some ⟨R, 0, none⟩), .int .i64 (i : Int)] w (RN base R s w (mOut m s[i] (s.data.toList.drop (i + 1)))) := by
  have htext := hid (fun d W (h : Rf W base R s m) => text_any base R s m d b W hb (by omega) h)
  have hrf := h
  obtain ⟨VO, VT, VA, B, h⟩ := h
  obtain ⟨n, hn', h0, h1, hbn⟩ := byteOf s i hlt
  have Hdm := hid (dropAt s i hlt)
  rw [← hbn] at Hdm ⊢
  obtain ⟨p, hp⟩ : ∃ p, mOut m (bOf n) (s.data.toList.drop (i + 1)) = p := ⟨_, rfl⟩
  have Hp : Hid (p = if bOf n = 60 ∧ dataOpen (s.data.toList.drop (i + 1)) = true then ({ mText m true with st := 1 }, 1) else ({ m with text := m.text ++ [bOf n] }, 1)) := hid (by rw [← hp]; unfold mOut; split <;> first | omega | rfl | (exfalso; revert hst; assumption))
  rw [hp]
  clear hp hbn
  have c0 : w.cell? ⟨R, 0, none⟩ = some (.string s) := h.cell 0 rfl
  have c2 : w.cell? ⟨R, 2, none⟩ = some (.int .i64 0) := h.cell 2 (by unfold rcs; rw [hst]; rfl)
  have f2 := h.fz 2
  have f3 := h.fz 3
  have hmi0 : (0 : Int) ≤ (i : Int) := by omega
  have hmi1 : (i : Int) < (s.size : Int) := by omega
  have htl : m.text.length ≤ 400000 := by have := hb.text; omega
  obtain ⟨tn, htn⟩ : ∃ tn, m.text.length = tn := ⟨_, rfl⟩
  obtain ⟨At, ct, rfl⟩ := OwnB.shapeV h.text htn
  have c3 : w.cell? ⟨R, 3, none⟩ = some (.slice At tn ct) := h.cell 3 rfl
  have Htl := hid htl
  have Htn := hid htn
  clear htn
  have H := hid h
  have Hrf := hid hrf
  have hRlt := h.lt
  have Hle := hid (fun (n : Int) (h0 : 0 ≤ n) (h1 : n ≤ 255) W => (refLetter_any n h0 h1 W).mono fun e w' h => (⟨h.1, h.2.symm⟩ : e = _ ∧ w' = W))
  clear h hrf hb
  by_cases h60 : n = 60
  · subst h60
    obtain ⟨q, hq⟩ : ∃ q, i + 1 = q := ⟨_, rfl⟩
    have hqi : (i : Int) + 1 = (q : Int) := by omega
    rw [hq] at Hp Hdm
    by_cases hq1 : q < s.size
    · obtain ⟨d, hd, d0, d1, hbd⟩ := byteOf s q hq1
      have Hdq := hid (dropAt s q hq1)
      rw [← hbd] at Hdq
      have hq0 : (0 : Int) ≤ (q : Int) := by omega
      have hq2 : (q : Int) < (s.size : Int) := by omega
      have hq3 : decide ((q : Int) < (s.size : Int)) = true := decide_eq_true hq2
      have hq4 : decide (q < s.size) = true := decide_eq_true hq1
      have Hld := hid (Hle.out d d0 d1)
      obtain ⟨lb, hlb⟩ : ∃ lb, isLetter (bOf d) = lb := ⟨_, rfl⟩
      rw [hlb] at Hld
      have Hlb := hid hlb
      clear hlb hbd
      cases lb with
      | true =>
        have Hq : Hid (p = ({ mText m true with st := 1 }, 1)) := hid (by rw [Hp.out, Hdq.out, if_pos ⟨rfl, by rw [dataOpen_cons, Hlb.out]; rfl⟩])
        go_enter Try.func31, Try.ntmps31
        go_wp2_with (go_at_call 52; refine (Hld.out _).mono ?_; rintro e2 w2 ⟨rfl, hw2⟩; subst w2)
        refine (htext.out true _ Hrf.out).mono ?_
        rintro e w1 ⟨rfl, ⟨VO1, VT1, VA1, B1, hrf1⟩, hb1⟩
        have HP := hid hrf1
        have HB := hid hb1
        have g2 := hrf1.fz 2
        have k2 := hrf1.cell 2 rfl
        clear hrf1 hb1
        go_wp2
        go_ret
        rw [Hq.out]
        exact ⟨⟨_, rfl, hid rfl⟩, Rf.rgs (m := mText m true) (HP.out.set 2 (.int .i64 1)) rfl rfl rfl rfl, HP.out.bset HB.out 2 _⟩
      | false =>
        by_cases h33 : d = 33
        · subst h33
          have Hq : Hid (p = ({ mText m true with st := 1 }, 1)) := hid (by rw [Hp.out, Hdq.out, if_pos ⟨rfl, rfl⟩])
          go_enter Try.func31, Try.ntmps31
          go_wp2_with (go_at_call 52; refine (Hld.out _).mono ?_; rintro e2 w2 ⟨rfl, hw2⟩; subst w2)
          refine (htext.out true _ Hrf.out).mono ?_
          rintro e w1 ⟨rfl, ⟨VO1, VT1, VA1, B1, hrf1⟩, hb1⟩
          have HP := hid hrf1
          have HB := hid hb1
          have g2 := hrf1.fz 2
          have k2 := hrf1.cell 2 rfl
          clear hrf1 hb1
          go_wp2
          go_ret
          rw [Hq.out]
          exact ⟨⟨_, rfl, hid rfl⟩, Rf.rgs (m := mText m true) (HP.out.set 2 (.int .i64 1)) rfl rfl rfl rfl, HP.out.bset HB.out 2 _⟩
        · have h33b : (d == 33) = false := beq_eq_false_iff_ne.2 h33
          have e33 := bOf_no d d0 d1 33 33 rfl h33
          by_cases h63 : d = 63
          · subst h63
            have Hq : Hid (p = ({ mText m true with st := 1 }, 1)) := hid (by rw [Hp.out, Hdq.out, if_pos ⟨rfl, rfl⟩])
            go_enter Try.func31, Try.ntmps31
            go_wp2_with (go_at_call 52; refine (Hld.out _).mono ?_; rintro e2 w2 ⟨rfl, hw2⟩; subst w2)
            refine (htext.out true _ Hrf.out).mono ?_
            rintro e w1 ⟨rfl, ⟨VO1, VT1, VA1, B1, hrf1⟩, hb1⟩
            have HP := hid hrf1
            have HB := hid hb1
            have g2 := hrf1.fz 2
            have k2 := hrf1.cell 2 rfl
            clear hrf1 hb1
            go_wp2
            go_ret
            rw [Hq.out]
            exact ⟨⟨_, rfl, hid rfl⟩, Rf.rgs (m := mText m true) (HP.out.set 2 (.int .i64 1)) rfl rfl rfl rfl, HP.out.bset HB.out 2 _⟩
          · have h63b : (d == 63) = false := beq_eq_false_iff_ne.2 h63
            have e63 := bOf_no d d0 d1 63 63 rfl h63
            by_cases h47 : d = 47
            · subst h47
              obtain ⟨u, hu⟩ : ∃ u, i + 2 = u := ⟨_, rfl⟩
              have hui : (i : Int) + 2 = (u : Int) := by omega
              by_cases hu1 : u < s.size
              · have hu2 : (u : Int) < (s.size : Int) := by omega
                have hu3 : decide ((u : Int) < (s.size : Int)) = true := decide_eq_true hu2
                have hu4 : decide (u < s.size) = true := decide_eq_true hu1
                have Hq : Hid (p = ({ mText m true with st := 1 }, 1)) := hid (by rw [Hp.out, Hdq.out, if_pos ⟨rfl, by rw [dataOpen_cons, show q + 1 = u from by omega, dropAt s u hu1]; rfl⟩])
                clear e33 e63 hu
                go_enter Try.func31, Try.ntmps31
                go_wp2_with (go_at_call 52; refine (Hld.out _).mono ?_; rintro e2 w2 ⟨rfl, hw2⟩; subst w2)
                refine (htext.out true _ Hrf.out).mono ?_
                rintro e w1 ⟨rfl, ⟨VO1, VT1, VA1, B1, hrf1⟩, hb1⟩
                have HP := hid hrf1
                have HB := hid hb1
                have g2 := hrf1.fz 2
                have k2 := hrf1.cell 2 rfl
                clear hrf1 hb1
                go_wp2
                go_ret
                rw [Hq.out]
                exact ⟨⟨_, rfl, hid rfl⟩, Rf.rgs (m := mText m true) (HP.out.set 2 (.int .i64 1)) rfl rfl rfl rfl, HP.out.bset HB.out 2 _⟩
              · have hu2 : ¬ (u : Int) < (s.size : Int) := by omega
                have hu3 : decide ((u : Int) < (s.size : Int)) = false := decide_eq_false hu2
                have hu4 : decide (u < s.size) = false := decide_eq_false hu1
                have Hq : Hid (p = ({ m with text := m.text ++ [bOf 60] }, 1)) := hid (by rw [Hp.out, Hdq.out, if_neg]; rintro ⟨-, e⟩; rw [dataOpen_cons, show q + 1 = u from by omega, List.drop_of_length_le (by rw [len_data]; omega)] at e; revert e; decide)
                clear e33 e63 hu
                go_enter Try.func31, Try.ntmps31
                go_wp2_with (first | (go_at_call 52; refine (Hld.out _).mono ?_; rintro e2 w2 ⟨rfl, hw2⟩; subst w2) | (at_builtin; refine wpl_oct rfl _ _ rfl base _ m.text 60 _ H.out.text rfl rfl h0 h1 (by have := Htl.out; omega) H.out.size ?_; intro v' w3 hO3 hg3; obtain ⟨A3, c3', hv3⟩ := OwnB.shapeV hO3 (n := tn + 1) (by rw [List.length_append, Htn.out]; rfl); subst hv3; have H3 := hid ((H.out.alloc (.cells #[.int .u8 60] 5)).growT hg3 hO3); have HB3 := hid (below_grown (H.out.bkeep (Below.refl base _) (alloc_below w (.cells #[.int .u8 60] 5))) (H.out.alloc (.cells #[.int .u8 60] 5)).size (OwnB.lo_ H.out.text) hg3); have g3 := H3.out.fz 3; have q3 : w3.cell? ⟨R, 3, none⟩ = some (.slice At tn ct) := H3.out.cell 3 rfl; clear hO3 hg3))
                go_ret
                rw [Hq.out]
                exact ⟨⟨_, rfl, hid rfl⟩, Rf.rgs (m := { m with text := m.text ++ [bOf 60] }) (H3.out.set 3 (.slice A3 (tn + 1) c3')) rfl rfl rfl rfl, H3.out.bset HB3.out 3 _⟩
            · have h47b : (d == 47) = false := beq_eq_false_iff_ne.2 h47
              have e47 := bOf_no d d0 d1 47 47 rfl h47
              have Hq : Hid (p = ({ m with text := m.text ++ [bOf 60] }, 1)) := hid (by rw [Hp.out, Hdq.out, if_neg]; rintro ⟨-, e⟩; rw [dataOpen_cons, Hlb.out] at e; simp [e33, e63, e47] at e)
              clear e33 e63 e47
              go_enter Try.func31, Try.ntmps31
              go_wp2_with (first | (go_at_call 52; refine (Hld.out _).mono ?_; rintro e2 w2 ⟨rfl, hw2⟩; subst w2) | (at_builtin; refine wpl_oct rfl _ _ rfl base _ m.text 60 _ H.out.text rfl rfl h0 h1 (by have := Htl.out; omega) H.out.size ?_; intro v' w3 hO3 hg3; obtain ⟨A3, c3', hv3⟩ := OwnB.shapeV hO3 (n := tn + 1) (by rw [List.length_append, Htn.out]; rfl); subst hv3; have H3 := hid ((H.out.alloc (.cells #[.int .u8 60] 5)).growT hg3 hO3); have HB3 := hid (below_grown (H.out.bkeep (Below.refl base _) (alloc_below w (.cells #[.int .u8 60] 5))) (H.out.alloc (.cells #[.int .u8 60] 5)).size (OwnB.lo_ H.out.text) hg3); have g3 := H3.out.fz 3; have q3 : w3.cell? ⟨R, 3, none⟩ = some (.slice At tn ct) := H3.out.cell 3 rfl; clear hO3 hg3))
              go_ret
              rw [Hq.out]
              exact ⟨⟨_, rfl, hid rfl⟩, Rf.rgs (m := { m with text := m.text ++ [bOf 60] }) (H3.out.set 3 (.slice A3 (tn + 1) c3')) rfl rfl rfl rfl, H3.out.bset HB3.out 3 _⟩
    · have hq2 : ¬ (q : Int) < (s.size : Int) := by omega
      have hq3 : decide ((q : Int) < (s.size : Int)) = false := decide_eq_false hq2
      have hq4 : decide (q < s.size) = false := decide_eq_false hq1
      have Hld := hid (Hle.out 0 (by omega) (by omega))
      have Hq : Hid (p = ({ m with text := m.text ++ [bOf 60] }, 1)) := hid (by rw [Hp.out, List.drop_of_length_le (by rw [len_data]; omega), if_neg]; rintro ⟨-, e⟩; cases e)
      go_enter Try.func31, Try.ntmps31
      go_wp2_with (first | (go_at_call 52; refine (Hld.out _).mono ?_; rintro e2 w2 ⟨rfl, hw2⟩; subst w2) | (at_builtin; refine wpl_oct rfl _ _ rfl base _ m.text 60 _ H.out.text rfl rfl h0 h1 (by have := Htl.out; omega) H.out.size ?_; intro v' w3 hO3 hg3; obtain ⟨A3, c3', hv3⟩ := OwnB.shapeV hO3 (n := tn + 1) (by rw [List.length_append, Htn.out]; rfl); subst hv3; have H3 := hid ((H.out.alloc (.cells #[.int .u8 60] 5)).growT hg3 hO3); have HB3 := hid (below_grown (H.out.bkeep (Below.refl base _) (alloc_below w (.cells #[.int .u8 60] 5))) (H.out.alloc (.cells #[.int .u8 60] 5)).size (OwnB.lo_ H.out.text) hg3); have g3 := H3.out.fz 3; have q3 : w3.cell? ⟨R, 3, none⟩ = some (.slice At tn ct) := H3.out.cell 3 rfl; clear hO3 hg3))
      go_ret
      rw [Hq.out]
      exact ⟨⟨_, rfl, hid rfl⟩, Rf.rgs (m := { m with text := m.text ++ [bOf 60] }) (H3.out.set 3 (.slice A3 (tn + 1) c3')) rfl rfl rfl rfl, H3.out.bset HB3.out 3 _⟩
  · have h60b : (n == 60) = false := beq_eq_false_iff_ne.2 h60
    have e60 := bOf_no n h0 h1 60 60 rfl h60
    have Hld := hid (Hle.out 0 (by omega) (by omega))
    have Hq : Hid (p = ({ m with text := m.text ++ [bOf n] }, 1)) := hid (by rw [Hp.out, if_neg (fun e => e60 e.1)])
    clear e60
    go_enter Try.func31, Try.ntmps31
    go_wp2_with (first | (go_at_call 52; refine (Hld.out _).mono ?_; rintro e2 w2 ⟨rfl, hw2⟩; subst w2) | (at_builtin; refine wpl_oct rfl _ _ rfl base _ m.text n _ H.out.text rfl rfl h0 h1 (by have := Htl.out; omega) H.out.size ?_; intro v' w3 hO3 hg3; obtain ⟨A3, c3', hv3⟩ := OwnB.shapeV hO3 (n := tn + 1) (by rw [List.length_append, Htn.out]; rfl); subst hv3; have H3 := hid ((H.out.alloc (.cells #[.int .u8 n] 5)).growT hg3 hO3); have HB3 := hid (below_grown (H.out.bkeep (Below.refl base _) (alloc_below w (.cells #[.int .u8 n] 5))) (H.out.alloc (.cells #[.int .u8 n] 5)).size (OwnB.lo_ H.out.text) hg3); have g3 := H3.out.fz 3; have q3 : w3.cell? ⟨R, 3, none⟩ = some (.slice At tn ct) := H3.out.cell 3 rfl; clear hO3 hg3))
    go_ret
    rw [Hq.out]
    exact ⟨⟨_, rfl, hid rfl⟩, Rf.rgs (m := { m with text := m.text ++ [bOf n] }) (H3.out.set 3 (.slice A3 (tn + 1) c3')) rfl rfl rfl rfl, H3.out.bset HB3.out 3 _⟩
set_option maxRecDepth 100000 in
set_option maxHeartbeats 6400000 in
theorem out1_any (base R : Nat) (s : ByteArray) (m : Mc) (i : Nat) (hlt : i < s.size) (hs : s.size ≤ 65536) (hst : m.st = 1) (b : Nat) (w : World) (hb : Mb b m) (hb2 : b ≤ 399999) (h : Rf w base R s m) :
    Calls Try.prog 31 #[.pointer (some ⟨R, 0, none⟩), .int .i64 (i : Int)] w (RN base R s w (mOut m s[i] (s.data.toList.drop (i + 1)))) := by
  have htext := hid (fun d W (h : Rf W base R s m) => text_any base R s m d b W hb (by omega) h)
  have hrf := h
  obtain ⟨VO, VT, VA, B, h⟩ := h
  obtain ⟨n, hn', h0, h1, hbn⟩ := byteOf s i hlt
  have Hdm := hid (dropAt s i hlt)
  rw [← hbn] at Hdm ⊢
  obtain ⟨p, hp⟩ : ∃ p, mOut m (bOf n) (s.data.toList.drop (i + 1)) = p := ⟨_, rfl⟩
  have Hp : Hid (p = if bOf n = 47 then ({ m with st := 2 }, 1) else if bOf n = 33 then ({ m with st := 12 }, 1) else if bOf n = 63 then ({ m with st := 13 }, 1) else ({ m with st := 3, tag := { tk0 with k := 1 } }, 0)) := hid (by rw [← hp]; unfold mOut; split <;> first | omega | rfl | (exfalso; revert hst; assumption))
  rw [hp]
  clear hp hbn
  have c0 : w.cell? ⟨R, 0, none⟩ = some (.string s) := h.cell 0 rfl
  have c2 : w.cell? ⟨R, 2, none⟩ = some (.int .i64 1) := h.cell 2 (by unfold rcs; rw [hst]; rfl)
  have f2 := h.fz 2
  have f3 := h.fz 3
  have hmi0 : (0 : Int) ≤ (i : Int) := by omega
  have hmi1 : (i : Int) < (s.size : Int) := by omega
  have c4 := h.cell 4 rfl
  have c5 := h.cell 5 rfl
  have c6 := h.cell 6 rfl
  have c7 := h.cell 7 rfl
  have c8 := h.cell 8 rfl
  have f4 := h.fz 4
  have f5 := h.fz 5
  have f6 := h.fz 6
  have f7 := h.fz 7
  have f8 := h.fz 8
  have H := hid h
  have Hrf := hid hrf
  have hRlt := h.lt
  clear h hrf hb
  by_cases h47 : n = 47
  · subst h47
    have Hq : Hid (p = ({ m with st := 2 }, 1)) := hid (by rw [Hp.out]; rfl)
    go_enter Try.func31, Try.ntmps31
    go_wp2_with fail
    go_ret
    rw [Hq.out]
    exact ⟨⟨_, rfl, hid rfl⟩, Rf.rgs (m := m) (H.out.set 2 (.int .i64 2)) rfl rfl rfl rfl, H.out.bset (Below.refl _ _) 2 _⟩
  · have h47b : (n == 47) = false := beq_eq_false_iff_ne.2 h47
    have e47 := bOf_no n h0 h1 47 47 rfl h47
    by_cases h33 : n = 33
    · subst h33
      have Hq : Hid (p = ({ m with st := 12 }, 1)) := hid (by rw [Hp.out]; rfl)
      clear e47
      go_enter Try.func31, Try.ntmps31
      go_wp2_with fail
      go_ret
      rw [Hq.out]
      exact ⟨⟨_, rfl, hid rfl⟩, Rf.rgs (m := m) (H.out.set 2 (.int .i64 12)) rfl rfl rfl rfl, H.out.bset (Below.refl _ _) 2 _⟩
    · have h33b : (n == 33) = false := beq_eq_false_iff_ne.2 h33
      have e33 := bOf_no n h0 h1 33 33 rfl h33
      by_cases h63 : n = 63
      · subst h63
        have Hq : Hid (p = ({ m with st := 13 }, 1)) := hid (by rw [Hp.out]; rfl)
        clear e47 e33
        go_enter Try.func31, Try.ntmps31
        go_wp2_with fail
        go_ret
        rw [Hq.out]
        exact ⟨⟨_, rfl, hid rfl⟩, Rf.rgs (m := m) (H.out.set 2 (.int .i64 13)) rfl rfl rfl rfl, H.out.bset (Below.refl _ _) 2 _⟩
      · have h63b : (n == 63) = false := beq_eq_false_iff_ne.2 h63
        have e63 := bOf_no n h0 h1 63 63 rfl h63
        have Hq : Hid (p = ({ m with st := 3, tag := { tk0 with k := 1 } }, 0)) := hid (by rw [Hp.out, if_neg e47, if_neg e33, if_neg e63])
        clear e47 e33 e63
        go_enter Try.func31, Try.ntmps31
        go_wp2_with fail
        go_ret
        rw [Hq.out]
        exact ⟨⟨_, rfl, hid rfl⟩, Rf.rgs (m := { m with st := 3, tag := { tk0 with k := 1 } }) (H.out.tagS 1 ⟨#[]⟩) rfl rfl rfl rfl, H.out.btagS (Below.refl _ _) 1 ⟨#[]⟩⟩
set_option maxRecDepth 100000 in
set_option maxHeartbeats 6400000 in
theorem out2_any (base R : Nat) (s : ByteArray) (m : Mc) (i : Nat) (hlt : i < s.size) (hs : s.size ≤ 65536) (hst : m.st = 2) (b : Nat) (w : World) (hb : Mb b m) (hb2 : b ≤ 399999) (h : Rf w base R s m) :
    Calls Try.prog 31 #[.pointer (some ⟨R, 0, none⟩), .int .i64 (i : Int)] w (RN base R s w (mOut m s[i] (s.data.toList.drop (i + 1)))) := by
  have htext := hid (fun d W (h : Rf W base R s m) => text_any base R s m d b W hb (by omega) h)
  have hrf := h
  obtain ⟨VO, VT, VA, B, h⟩ := h
  obtain ⟨n, hn', h0, h1, hbn⟩ := byteOf s i hlt
  have Hdm := hid (dropAt s i hlt)
  rw [← hbn] at Hdm ⊢
  obtain ⟨p, hp⟩ : ∃ p, mOut m (bOf n) (s.data.toList.drop (i + 1)) = p := ⟨_, rfl⟩
  have Hp : Hid (p = if isLetter (bOf n) then ({ m with st := 3, tag := { tk0 with k := 2 } }, 0) else if bOf n = 62 then ({ m with st := 0 }, 1) else ({ m with st := 13 }, 0)) := hid (by rw [← hp]; unfold mOut; split <;> first | omega | rfl | (exfalso; revert hst; assumption))
  rw [hp]
  clear hp hbn
  have c0 : w.cell? ⟨R, 0, none⟩ = some (.string s) := h.cell 0 rfl
  have c2 : w.cell? ⟨R, 2, none⟩ = some (.int .i64 2) := h.cell 2 (by unfold rcs; rw [hst]; rfl)
  have f2 := h.fz 2
  have f3 := h.fz 3
  have hmi0 : (0 : Int) ≤ (i : Int) := by omega
  have hmi1 : (i : Int) < (s.size : Int) := by omega
  have c4 := h.cell 4 rfl
  have c5 := h.cell 5 rfl
  have c6 := h.cell 6 rfl
  have c7 := h.cell 7 rfl
  have c8 := h.cell 8 rfl
  have f4 := h.fz 4
  have f5 := h.fz 5
  have f6 := h.fz 6
  have f7 := h.fz 7
  have f8 := h.fz 8
  have H := hid h
  have Hrf := hid hrf
  have hRlt := h.lt
  have Hld := hid (fun W => (refLetter_any n h0 h1 W).mono fun e w' h => (⟨h.1, h.2.symm⟩ : e = _ ∧ w' = W))
  clear h hrf hb
  obtain ⟨lb, hlb⟩ : ∃ lb, isLetter (bOf n) = lb := ⟨_, rfl⟩
  rw [hlb] at Hld Hp
  clear hlb
  cases lb with
  | true =>
    have Hq : Hid (p = ({ m with st := 3, tag := { tk0 with k := 2 } }, 0)) := hid (by rw [Hp.out, if_pos rfl])
    go_enter Try.func31, Try.ntmps31
    go_wp2_with (go_at_call 52; refine (Hld.out _).mono ?_; rintro e2 w2 ⟨rfl, hw2⟩; subst w2)
    go_ret
    rw [Hq.out]
    exact ⟨⟨_, rfl, hid rfl⟩, Rf.rgs (m := { m with st := 3, tag := { tk0 with k := 2 } }) (H.out.tagS 2 ⟨#[]⟩) rfl rfl rfl rfl, H.out.btagS (Below.refl _ _) 2 ⟨#[]⟩⟩
  | false =>
    by_cases h62 : n = 62
    · subst h62
      have Hq : Hid (p = ({ m with st := 0 }, 1)) := hid (by rw [Hp.out]; rfl)
      go_enter Try.func31, Try.ntmps31
      go_wp2_with (go_at_call 52; refine (Hld.out _).mono ?_; rintro e2 w2 ⟨rfl, hw2⟩; subst w2)
      go_ret
      rw [Hq.out]
      exact ⟨⟨_, rfl, hid rfl⟩, Rf.rgs (m := m) (H.out.set 2 (.int .i64 0)) rfl rfl rfl rfl, H.out.bset (Below.refl _ _) 2 _⟩
    · have h62b : (n == 62) = false := beq_eq_false_iff_ne.2 h62
      have e62 := bOf_no n h0 h1 62 62 rfl h62
      have Hq : Hid (p = ({ m with st := 13 }, 0)) := hid (by rw [Hp.out, if_neg (by simp), if_neg e62])
      clear e62
      go_enter Try.func31, Try.ntmps31
      go_wp2_with (go_at_call 52; refine (Hld.out _).mono ?_; rintro e2 w2 ⟨rfl, hw2⟩; subst w2)
      go_ret
      rw [Hq.out]
      exact ⟨⟨_, rfl, hid rfl⟩, Rf.rgs (m := m) (H.out.set 2 (.int .i64 13)) rfl rfl rfl rfl, H.out.bset (Below.refl _ _) 2 _⟩
set_option maxRecDepth 100000 in
set_option maxHeartbeats 6400000 in
theorem out12_any (base R : Nat) (s : ByteArray) (m : Mc) (i : Nat) (hlt : i < s.size) (hs : s.size ≤ 65536) (hst : m.st = 12) (b : Nat) (w : World) (hb : Mb b m) (hb2 : b ≤ 399999) (h : Rf w base R s m) :
    Calls Try.prog 31 #[.pointer (some ⟨R, 0, none⟩), .int .i64 (i : Int)] w (RN base R s w (mOut m s[i] (s.data.toList.drop (i + 1)))) := by
  have htext := hid (fun d W (h : Rf W base R s m) => text_any base R s m d b W hb (by omega) h)
  have hrf := h
  obtain ⟨VO, VT, VA, B, h⟩ := h
  obtain ⟨n, hn', h0, h1, hbn⟩ := byteOf s i hlt
  have Hdm := hid (dropAt s i hlt)
  rw [← hbn] at Hdm ⊢
  obtain ⟨p, hp⟩ : ∃ p, mOut m (bOf n) (s.data.toList.drop (i + 1)) = p := ⟨_, rfl⟩
  have Hp : Hid (p = if [45, 45].isPrefixOf (bOf n :: s.data.toList.drop (i + 1)) then ({ m with st := 14 }, 2) else ({ m with st := 13 }, 0)) := hid (by rw [← hp]; unfold mOut; split <;> first | omega | rfl | (exfalso; revert hst; assumption))
  rw [hp]
  clear hp hbn
  have c0 : w.cell? ⟨R, 0, none⟩ = some (.string s) := h.cell 0 rfl
  have c2 : w.cell? ⟨R, 2, none⟩ = some (.int .i64 12) := h.cell 2 (by unfold rcs; rw [hst]; rfl)
  have f2 := h.fz 2
  have f3 := h.fz 3
  have hmi0 : (0 : Int) ≤ (i : Int) := by omega
  have hmi1 : (i : Int) < (s.size : Int) := by omega
  have H := hid h
  have Hrf := hid hrf
  have hRlt := h.lt
  have Hext : Hid ((s.extract i s.size).data.toList = bOf n :: s.data.toList.drop (i + 1)) := hid (by rw [data_extract, take_all, Hdm.out])
  have Hbg := hid (fun W => (begins_any ⟨#[45, 45]⟩ (s.extract i s.size) W (show 2 ≤ _ by omega) (by rw [ByteArray.size_extract]; omega)).mono fun e w' h => (⟨h.1, h.2.symm⟩ : e = _ ∧ w' = W))
  rw [Hext.out] at Hbg
  obtain ⟨bg, hbg⟩ : ∃ bg, begL [45, 45] (bOf n :: s.data.toList.drop (i + 1)) = bg := ⟨_, rfl⟩
  have Hbg0 := hid hbg
  have hbg1 : begL (⟨#[45, 45]⟩ : ByteArray).data.toList (bOf n :: s.data.toList.drop (i + 1)) = bg := hbg
  rw [hbg1] at Hbg
  have hbg2 : List.isPrefixOf [45, 45] (bOf n :: s.data.toList.drop (i + 1)) = bg := hbg
  rw [hbg2] at Hp
  have hsx : (i : Int) ≤ (s.size : Int) := by omega
  clear hbg hbg1 hbg2
  clear h hrf hb
  cases bg with
  | true =>
    have Hq : Hid (p = ({ m with st := 14 }, 2)) := hid (by rw [Hp.out, if_pos rfl])
    go_enter Try.func31, Try.ntmps31
    go_wp2_with (go_at_call 23; refine (Hbg.out _).mono ?_; rintro e2 w2 ⟨rfl, hw2⟩; subst w2)
    go_ret
    rw [Hq.out]
    exact ⟨⟨_, rfl, hid rfl⟩, Rf.rgs (m := m) (H.out.set 2 (.int .i64 14)) rfl rfl rfl rfl, H.out.bset (Below.refl _ _) 2 _⟩
  | false =>
    have Hq : Hid (p = ({ m with st := 13 }, 0)) := hid (by rw [Hp.out, if_neg (by simp)])
    go_enter Try.func31, Try.ntmps31
    go_wp2_with (go_at_call 23; refine (Hbg.out _).mono ?_; rintro e2 w2 ⟨rfl, hw2⟩; subst w2)
    go_ret
    rw [Hq.out]
    exact ⟨⟨_, rfl, hid rfl⟩, Rf.rgs (m := m) (H.out.set 2 (.int .i64 13)) rfl rfl rfl rfl, H.out.bset (Below.refl _ _) 2 _⟩
set_option maxRecDepth 100000 in
set_option maxHeartbeats 6400000 in
theorem out13_any (base R : Nat) (s : ByteArray) (m : Mc) (i : Nat) (hlt : i < s.size) (hs : s.size ≤ 65536) (hst : m.st = 13) (b : Nat) (w : World) (hb : Mb b m) (hb2 : b ≤ 399999) (h : Rf w base R s m) :
    Calls Try.prog 31 #[.pointer (some ⟨R, 0, none⟩), .int .i64 (i : Int)] w (RN base R s w (mOut m s[i] (s.data.toList.drop (i + 1)))) := by
  have htext := hid (fun d W (h : Rf W base R s m) => text_any base R s m d b W hb (by omega) h)
  have hrf := h
  obtain ⟨VO, VT, VA, B, h⟩ := h
  obtain ⟨n, hn', h0, h1, hbn⟩ := byteOf s i hlt
  have Hdm := hid (dropAt s i hlt)
  rw [← hbn] at Hdm ⊢
  obtain ⟨p, hp⟩ : ∃ p, mOut m (bOf n) (s.data.toList.drop (i + 1)) = p := ⟨_, rfl⟩
  have Hp : Hid (p = if bOf n = 62 then ({ m with st := 0 }, 1) else (m, 1)) := hid (by rw [← hp]; unfold mOut; split <;> first | omega | rfl | (exfalso; revert hst; assumption))
  rw [hp]
  clear hp hbn
  have c0 : w.cell? ⟨R, 0, none⟩ = some (.string s) := h.cell 0 rfl
  have c2 : w.cell? ⟨R, 2, none⟩ = some (.int .i64 13) := h.cell 2 (by unfold rcs; rw [hst]; rfl)
  have f2 := h.fz 2
  have f3 := h.fz 3
  have hmi0 : (0 : Int) ≤ (i : Int) := by omega
  have hmi1 : (i : Int) < (s.size : Int) := by omega
  have H := hid h
  have Hrf := hid hrf
  have hRlt := h.lt
  clear h hrf hb
  by_cases h62 : n = 62
  · subst h62
    have Hq : Hid (p = ({ m with st := 0 }, 1)) := hid (by rw [Hp.out]; rfl)
    go_enter Try.func31, Try.ntmps31
    go_wp2_with fail
    go_ret
    rw [Hq.out]
    exact ⟨⟨_, rfl, hid rfl⟩, Rf.rgs (m := m) (H.out.set 2 (.int .i64 0)) rfl rfl rfl rfl, H.out.bset (Below.refl _ _) 2 _⟩
  · have h62b : (n == 62) = false := beq_eq_false_iff_ne.2 h62
    have e62 := bOf_no n h0 h1 62 62 rfl h62
    have Hq : Hid (p = (m, 1)) := hid (by rw [Hp.out, if_neg e62])
    clear e62
    go_enter Try.func31, Try.ntmps31
    go_wp2_with fail
    go_ret
    rw [Hq.out]
    exact ⟨⟨_, rfl, hid rfl⟩, Hrf.out, Below.refl _ _⟩
end Go.Proofs.Ytihgmgpcdodknaa
/- (*muslinref12.Reader).outside: comments, raw texts. -/
namespace Go.Proofs.Ytihgmgpcdodknaa
open Go.RowKit

set_option maxRecDepth 100000 in
set_option maxHeartbeats 6400000 in
theorem out14_any (base R : Nat) (s : ByteArray) (m : Mc) (i : Nat) (hlt : i < s.size) (hs : s.size ≤ 65536) (hst : m.st = 14) (b : Nat) (w : World) (hb : Mb b m) (hb2 : b ≤ 399999) (h : Rf w base R s m) :
    Calls Try.prog 31 #[.pointer (some ⟨R, 0, none⟩), .int .i64 (i : Int)] w (RN base R s w (mOut m s[i] (s.data.toList.drop (i + 1)))) := by
  have htext := hid (fun d W (h : Rf W base R s m) => text_any base R s m d b W hb (by omega) h)
  have hrf := h
  obtain ⟨VO, VT, VA, B, h⟩ := h
  obtain ⟨n, hn', h0, h1, hbn⟩ := byteOf s i hlt
  have Hdm := hid (dropAt s i hlt)
  rw [← hbn] at Hdm ⊢
  obtain ⟨p, hp⟩ : ∃ p, mOut m (bOf n) (s.data.toList.drop (i + 1)) = p := ⟨_, rfl⟩
  have Hp : Hid (p = if [45, 45, 62].isPrefixOf (bOf n :: s.data.toList.drop (i + 1)) then ({ m with out := m.out ++ [⟨4, [], m.text, [], false⟩], text := [], st := 0 }, 3) else ({ m with text := m.text ++ [bOf n] }, 1)) := hid (by rw [← hp]; unfold mOut; split <;> first | omega | rfl | (exfalso; revert hst; assumption))
  rw [hp]
  clear hp hbn
  have c0 : w.cell? ⟨R, 0, none⟩ = some (.string s) := h.cell 0 rfl
  have c2 : w.cell? ⟨R, 2, none⟩ = some (.int .i64 14) := h.cell 2 (by unfold rcs; rw [hst]; rfl)
  have f2 := h.fz 2
  have f3 := h.fz 3
  have hmi0 : (0 : Int) ≤ (i : Int) := by omega
  have hmi1 : (i : Int) < (s.size : Int) := by omega
  have htl : m.text.length ≤ 400000 := by have := hb.text; omega
  obtain ⟨tn, htn⟩ : ∃ tn, m.text.length = tn := ⟨_, rfl⟩
  obtain ⟨At, ct, rfl⟩ := OwnB.shapeV h.text htn
  have c3 : w.cell? ⟨R, 3, none⟩ = some (.slice At tn ct) := h.cell 3 rfl
  have Htl := hid htl
  have Htn := hid htn
  clear htn
  have H := hid h
  have Hrf := hid hrf
  have hRlt := h.lt
  have Hext : Hid ((s.extract i s.size).data.toList = bOf n :: s.data.toList.drop (i + 1)) := hid (by rw [data_extract, take_all, Hdm.out])
  have Hbg := hid (fun W => (begins_any ⟨#[45, 45, 62]⟩ (s.extract i s.size) W (show 3 ≤ _ by omega) (by rw [ByteArray.size_extract]; omega)).mono fun e w' h => (⟨h.1, h.2.symm⟩ : e = _ ∧ w' = W))
  rw [Hext.out] at Hbg
  obtain ⟨bg, hbg⟩ : ∃ bg, begL [45, 45, 62] (bOf n :: s.data.toList.drop (i + 1)) = bg := ⟨_, rfl⟩
  have Hbg0 := hid hbg
  have hbg1 : begL (⟨#[45, 45, 62]⟩ : ByteArray).data.toList (bOf n :: s.data.toList.drop (i + 1)) = bg := hbg
  rw [hbg1] at Hbg
  have hbg2 : List.isPrefixOf [45, 45, 62] (bOf n :: s.data.toList.drop (i + 1)) = bg := hbg
  rw [hbg2] at Hp
  have hsx : (i : Int) ≤ (s.size : Int) := by omega
  clear hbg hbg1 hbg2
  cases bg with
  | false =>
    clear h hrf hb
    have Hq : Hid (p = ({ m with text := m.text ++ [bOf n] }, 1)) := hid (by rw [Hp.out, if_neg (by simp)])
    go_enter Try.func31, Try.ntmps31
    go_wp2_with (first | (go_at_call 23; refine (Hbg.out _).mono ?_; rintro e2 w2 ⟨rfl, hw2⟩; subst w2) | (at_builtin; refine wpl_oct rfl _ _ rfl base _ m.text n _ H.out.text rfl rfl h0 h1 (by have := Htl.out; omega) H.out.size ?_; intro v' w3 hO3 hg3; obtain ⟨A3, c3', hv3⟩ := OwnB.shapeV hO3 (n := tn + 1) (by rw [List.length_append, Htn.out]; rfl); subst hv3; have H3 := hid ((H.out.alloc (.cells #[.int .u8 n] 5)).growT hg3 hO3); have HB3 := hid (below_grown (H.out.bkeep (Below.refl base _) (alloc_below w (.cells #[.int .u8 n] 5))) (H.out.alloc (.cells #[.int .u8 n] 5)).size (OwnB.lo_ H.out.text) hg3); have g3 := H3.out.fz 3; have q3 : w3.cell? ⟨R, 3, none⟩ = some (.slice At tn ct) := H3.out.cell 3 rfl; clear hO3 hg3))
    go_ret
    rw [Hq.out]
    exact ⟨⟨_, rfl, hid rfl⟩, Rf.rgs (m := { m with text := m.text ++ [bOf n] }) (H3.out.set 3 (.slice A3 (tn + 1) c3')) rfl rfl rfl rfl, H3.out.bset HB3.out 3 _⟩
  | true =>
    have Hq : Hid (p = ({ m with out := m.out ++ [⟨4, [], m.text, [], false⟩], text := [], st := 0 }, 3)) := hid (by rw [Hp.out, if_pos rfl])
    obtain ⟨no, hno⟩ : ∃ n, m.out.length = n := ⟨_, rfl⟩
    obtain ⟨An, cn, rfl⟩ := OwnL.shape h.out hno
    have hnb : no ≤ 400000 := by have := hb.out; omega
    obtain ⟨tx, htx⟩ : ∃ tx : ByteArray, (⟨m.text.toArray⟩ : ByteArray) = tx := ⟨_, rfl⟩
    have Htx : Hid (tx.data.toList = m.text) := hid (by rw [← htx])
    have hcv := H.out.drew.text.back
    rw [htx] at hcv
    have HA := hid (H.out.drew.alloc (.cells #[.int .i64 4, .string ⟨#[]⟩, .string tx, .slice none 0 0, .bool false] 36))
    obtain ⟨cs, hcs, hcb, hown⟩ := HA.out.out
    rw [hno] at hown
    have Hcs := hid hcs
    have Hcb := hid hcb
    have Hno := hid hno
    have hne := own_blk_ne hown HA.out.blk (by decide)
    have hlo := HA.out.out.lo_
    have c1 : w.cell? ⟨R, 1, none⟩ = some (.slice An no cn) := h.cell 1 rfl
    have f1 := h.fz 1
    have hBs := h.size
    obtain ⟨i0, hi, hz0, hz1, hz2⟩ := info_parts info_tk
    clear hcs hcb htx hno h hrf hb
    go_enter Try.func31, Try.ntmps31
    go_wp2_with (go_at_call 23; refine (Hbg.out _).mono ?_; rintro e2 w2 ⟨rfl, hw2⟩; subst w2)
    refine wp_region_noPanic ?_
    go_region_law
      ((refine step_append_lies _ (by rfl) _ _ _ (by rfl) base 36 i0 _ 5 72 Try.underlying22 hi hz0 hz1 hz2 rfl (by omega) (.slice An no cn) no cs (by rfl) hown
          ⟨w.heap.size, 0, none⟩ 1 1 [.int .i64 4, .string ⟨#[]⟩, .string tx, .slice none 0 0, .bool false] (by rfl) (by rfl) (World.news_of_block (cs := #[.int .i64 4, .string ⟨#[]⟩, .string tx, .slice none 0 0, .bool false]) (t := 36) (fr := (0, 0)) (heap_alloc_new w.drew _)) (by simp [Value.oneCell'])
          (by omega) (by unfold maxLen; omega) (by omega) (by simp; omega) (w.heap.size + 1) (by simp) ?_; intro gg cap w4 hown3 hgrow hat hlt3
        have e0 : w4.cell? ⟨R, 1, none⟩ = some (.slice An no cn) := ((hgrow.cell_far _ (by simp; omega) (Ne.symm hne)).trans (HA.out.cell 1 rfl))
        have e1 : w4.frozen? ⟨R, 1, none⟩ = false := (hgrow.frozen_far _ (by simp; omega) (Ne.symm hne)).trans (HA.out.fz 1)))
    all_goals
      refine NoPanic.normal ?_
      have H4 := hid (HA.out.growO hgrow ⟨cs, Hcs.out, Hcb.out, rfl⟩ Hno.out hown3)
      have HB4 := hid (below_grown (H.out.bkeep (Below.refl base _) ((Below.refl _ w).drew.alloc (Nat.le_refl _) (.cells #[.int .i64 4, .string ⟨#[]⟩, .string tx, .slice none 0 0, .bool false] 36))) HA.out.size hlo hgrow)
      have g2 := H4.out.fz 2
      have g3 := H4.out.fz 3
      have k2 := H4.out.cell 2 rfl
      have k3 := H4.out.cell 3 rfl
      clear hown3 hgrow hat hne hlo hown c1 f1
      go_wp2
      go_ret
      rw [Hq.out]
      have H5 := H4.out.set 1 (.slice (some ⟨gg, 0, none⟩) (no + 1) cap)
      have HB5 := H4.out.bset HB4.out 1 (.slice (some ⟨gg, 0, none⟩) (no + 1) cap)
      exact ⟨⟨_, rfl, hid rfl⟩, Rf.rgs (m := { m with out := m.out ++ [⟨4, [], m.text, [], false⟩], text := [], st := 0 }) (by rw [← Htx.out]; exact ((H5.set 3 (.slice none 0 0)).set 2 (.int .i64 0)).dropT) rfl rfl rfl rfl, (H5.set 3 (.slice none 0 0)).bset (H5.bset HB5 3 _) 2 _⟩
end Go.Proofs.Ytihgmgpcdodknaa
/- (*muslinref12.Reader).outside: raw texts. -/
namespace Go.Proofs.Ytihgmgpcdodknaa
open Go.RowKit

set_option maxRecDepth 100000 in
set_option maxHeartbeats 6400000 in
theorem out15_any (base R : Nat) (s : ByteArray) (m : Mc) (i : Nat) (hlt : i < s.size) (hs : s.size ≤ 65536) (hst : m.st = 15) (b : Nat) (w : World) (hb : Mb b m) (hb2 : b ≤ 399999) (h : Rf w base R s m) :
    Calls Try.prog 31 #[.pointer (some ⟨R, 0, none⟩), .int .i64 (i : Int)] w (RN base R s w (mOut m s[i] (s.data.toList.drop (i + 1)))) := by
  have htext := hid (fun d W (h : Rf W base R s m) => text_any base R s m d b W hb (by omega) h)
  have hrf := h
  obtain ⟨VO, VT, VA, B, h⟩ := h
  obtain ⟨n, hn', h0, h1, hbn⟩ := byteOf s i hlt
  have Hdm := hid (dropAt s i hlt)
  rw [← hbn] at Hdm ⊢
  obtain ⟨p, hp⟩ : ∃ p, mOut m (bOf n) (s.data.toList.drop (i + 1)) = p := ⟨_, rfl⟩
  have Hp : Hid (p = if endsB m.raw (bOf n :: s.data.toList.drop (i + 1)) = true then ({ mText m (m.kind == 1) with st := 3, tag := { tk0 with k := 2, n := low (((bOf n :: s.data.toList.drop (i + 1)).drop 2).take m.raw.length) } }, m.raw.length + 2) else ({ m with text := m.text ++ [bOf n] }, 1)) := hid (by rw [← hp]; unfold mOut; split <;> first | omega | rfl | (exfalso; revert hst; assumption))
  rw [hp]
  clear hp hbn
  have c0 : w.cell? ⟨R, 0, none⟩ = some (.string s) := h.cell 0 rfl
  have c2 : w.cell? ⟨R, 2, none⟩ = some (.int .i64 15) := h.cell 2 (by unfold rcs; rw [hst]; rfl)
  have f2 := h.fz 2
  have f3 := h.fz 3
  have hmi0 : (0 : Int) ≤ (i : Int) := by omega
  have hmi1 : (i : Int) < (s.size : Int) := by omega
  have htl : m.text.length ≤ 400000 := by have := hb.text; omega
  obtain ⟨tn, htn⟩ : ∃ tn, m.text.length = tn := ⟨_, rfl⟩
  obtain ⟨At, ct, rfl⟩ := OwnB.shapeV h.text htn
  have c3 : w.cell? ⟨R, 3, none⟩ = some (.slice At tn ct) := h.cell 3 rfl
  have Htl := hid htl
  have Htn := hid htn
  clear htn
  have H := hid h
  have Hrf := hid hrf
  have hRlt := h.lt
  rw [← Hdm.out] at Hp
  obtain ⟨nm, hnm⟩ : ∃ x, bs m.raw = x := ⟨_, rfl⟩
  have c12 : w.cell? ⟨R, 12, none⟩ = some (.string nm) := h.cell 12 (by rw [← hnm]; rfl)
  obtain ⟨kk, hkk⟩ : ∃ x, m.kind = x := ⟨_, rfl⟩
  have c13 : w.cell? ⟨R, 13, none⟩ = some (.int .i64 kk) := h.cell 13 (by rw [← hkk]; rfl)
  have Hkk := hid hkk
  have hns : nm.size ≤ b := by rw [← hnm]; exact hb.raw
  have Hnl : Hid (nm.data.toList = m.raw) := hid (by rw [← hnm, bs_list])
  have Hnn : Hid (m.raw.length = nm.size) := hid (by rw [← Hnl.out, len_data])
  have Hcond : Hid (endsB m.raw (s.data.toList.drop i) = endsB nm.data.toList (s.data.toList.drop i)) := hid (by rw [Hnl.out])
  obtain ⟨q, hq⟩ : ∃ q, i + 2 + nm.size = q := ⟨_, rfl⟩
  have hw1 : ((i : Int) + 2) + (nm.size : Int) = (q : Int) := by omega
  have hw2 : (q : Int) - (i : Int) = ((nm.size + 2 : Nat) : Int) := by omega
  have hcat : ¬ 9223372036854775807 < 2 + nm.size := by omega
  have Hst := hid (fun W => refStarts_any (s.extract i s.size) (⟨#[60, 47]⟩ ++ nm) W (by rw [ByteArray.size_extract]; omega) (by rw [ByteArray.size_append, show (⟨#[60, 47]⟩ : ByteArray).size = 2 from rfl]; omega))
  have Hlist : Hid ((⟨#[60, 47]⟩ ++ nm : ByteArray).data.toList = 60 :: 47 :: nm.data.toList) := hid (by rw [data_append]; rfl)
  have Hext : Hid ((s.extract i s.size).data.toList = s.data.toList.drop i) := hid (by rw [data_extract, take_all])
  rw [Hlist.out, Hext.out] at Hst
  obtain ⟨sb, hsb⟩ : ∃ sb, startsB (s.data.toList.drop i) (60 :: 47 :: nm.data.toList) = sb := ⟨_, rfl⟩
  rw [hsb] at Hst
  have Hsb := hid hsb
  have Hget : Hid ((s.data.toList.drop i)[nm.data.toList.length + 2]? = s.data.toList[q]?) := hid (by rw [List.getElem?_drop, len_data]; congr 1; omega)
  have Hq0 := hid hq
  have hsx : (i : Int) ≤ (s.size : Int) := by omega
  have hiq : (i : Int) + 2 ≤ (q : Int) := by omega
  have hi2 : (0 : Int) ≤ (i : Int) + 2 := by omega
  clear h hrf hb hq hsb hnm hkk
  have Hbl0 := hid (fun (n : Int) (h0 : 0 ≤ n) (h1 : n ≤ 255) W => (refBlank_any n h0 h1 W).mono fun e w' h => (⟨h.1, h.2.symm⟩ : e = _ ∧ w' = W))
  cases sb with
  | false =>
    have Hbl := hid (Hbl0.out 0 (by omega) (by omega))
    have Hq : Hid (p = ({ m with text := m.text ++ [bOf n] }, 1)) := hid (by rw [Hp.out, if_neg (by rw [Hcond.out]; unfold endsB; rw [Hsb.out]; simp)])
    go_enter Try.func31, Try.ntmps31
    go_wp2_with fail
    refine wp_region_noPanic ?_
    refine wp_region_held_drew (S := fun w' => w'.cell? ⟨R, 12, none⟩ = some (.string nm) ∧ Below w.heap.size w w' ∧ R < w'.heap.size) (by kernel_rfl) ⟨c12, (Below.refl _ _).drew, hRlt⟩ (fun hHeld => ?_)
    refine wpAnyH_take (i := 0) (oi := ⟨some 192, _, _, _, _, _⟩) (v := ?_) rfl (by kernel_rfl) (by kernel_rfl) (by kernel_rfl) (fun _ _ _ h => h) (Or.inl ⟨by rfl, ?_⟩) (by assumption) ?_
    rotate_left 1
    · intro w hSw
      go_split_ands
      go_simp
      try with_reducible rfl
    try simp only [Act.put, List.setIfInBounds_toArray, List.set_cons_zero, List.set_cons_succ]
    refine wpAnyH_take (i := 1) (oi := ⟨some 193, _, _, _, _, _⟩) (v := ?_) rfl (by kernel_rfl) (by kernel_rfl) (by kernel_rfl) (fun _ _ _ h => h) (Or.inl ⟨by rfl, ?_⟩) (by assumption) ?_
    rotate_left 1
    · intro w hSw
      go_split_ands
      go_simp
      try with_reducible rfl
    try simp only [Act.put, List.setIfInBounds_toArray, List.set_cons_zero, List.set_cons_succ]
    refine wpAnyH_take (i := 2) (oi := ⟨some 194, _, _, _, _, _⟩) (v := ?_) rfl (by kernel_rfl) (by kernel_rfl) (by kernel_rfl) (fun _ _ _ h => h) (Or.inl ⟨by rfl, ?_⟩) (by assumption) ?_
    rotate_left 1
    · intro w hSw
      go_split_ands
      go_simp
      try with_reducible rfl
    try simp only [Act.put, List.setIfInBounds_toArray, List.set_cons_zero, List.set_cons_succ]
    refine wpAnyH_take (i := 3) (oi := ⟨some 195, _, _, _, _, _⟩) (v := ?_) rfl (by kernel_rfl) (by kernel_rfl) (by kernel_rfl) (fun _ _ _ h => h) (Or.inl ⟨by rfl, ?_⟩) (by assumption) ?_
    rotate_left 1
    · intro w hSw
      go_split_ands
      go_simp
      try with_reducible rfl
    try simp only [Act.put, List.setIfInBounds_toArray, List.set_cons_zero, List.set_cons_succ]
    refine wpAnyH_take (i := 4) (oi := ⟨some 196, _, _, _, _, _⟩) (v := ?_) rfl (by kernel_rfl) (by kernel_rfl) (by kernel_rfl) (fun _ _ _ h => h) (Or.inl ⟨by rfl, ?_⟩) (by assumption) ?_
    rotate_left 1
    · intro w hSw
      go_split_ands
      go_simp
      try with_reducible rfl
    try simp only [Act.put, List.setIfInBounds_toArray, List.set_cons_zero, List.set_cons_succ]
    refine wpAnyH_take (i := 5) (oi := ⟨some 197, _, _, _, _, _⟩) (v := ?_) rfl (by kernel_rfl) (by kernel_rfl) (by kernel_rfl) (fun _ _ _ h => h) (Or.inl ⟨by rfl, ?_⟩) (by assumption) ?_
    rotate_left 1
    · intro w hSw
      go_split_ands
      go_simp
      try with_reducible rfl
    try simp only [Act.put, List.setIfInBounds_toArray, List.set_cons_zero, List.set_cons_succ]
    refine wpAnyH_take (i := 6) (oi := ⟨some 198, _, _, _, _, _⟩) (v := ?_) rfl (by kernel_rfl) (by kernel_rfl) (by kernel_rfl) (fun _ _ _ h => h) (Or.inl ⟨by rfl, ?_⟩) (by assumption) ?_
    rotate_left 1
    · intro w hSw
      go_split_ands
      go_simp
      try with_reducible rfl
    try simp only [Act.put, List.setIfInBounds_toArray, List.set_cons_zero, List.set_cons_succ]
    refine wpAnyH_take (i := 7) (oi := ⟨some 199, _, _, _, _, _⟩) (v := ?_) rfl (by kernel_rfl) (by kernel_rfl) (by kernel_rfl) (fun _ _ _ h => h) (Or.inl ⟨by rfl, ?_⟩) (by assumption) ?_
    rotate_left 1
    · intro w hSw
      go_split_ands
      go_simp
      try with_reducible rfl
    try simp only [Act.put, List.setIfInBounds_toArray, List.set_cons_zero, List.set_cons_succ]
    refine wpAnyH_ready (rs := [8]) (by kernel_rfl) (by simp) ?_
    refine AllReadyH.cons (o := ⟨some 200, _, _, _, _, _⟩) rfl (fun K hK => ?_) AllReadyH.nil
    go_simp
    go_at_call 53
    refine (Hst.out _).mono ?_
    rintro e' w' ⟨rfl, hbk⟩
    dsimp only
    refine hK.out _ _ ⟨cell_aft hbk hHeld.2.2 hHeld.1, hHeld.2.1.trans (hbk.mono hHeld.2.1.size), size_aft hbk hHeld.2.2⟩ (fun hHeld2 => ?_)
    clear hK K
    try simp only [Act.put, List.setIfInBounds_toArray, List.set_cons_zero, List.set_cons_succ]
    refine wpAnyH_take (i := 9) (oi := ⟨some 201, _, _, _, _, _⟩) (v := ?_) rfl (by kernel_rfl) (by kernel_rfl) (by kernel_rfl) (fun _ _ _ h => h) (Or.inl ⟨by rfl, ?_⟩) (by assumption) ?_
    rotate_left 1
    · intro w hSw
      go_split_ands
      go_simp
      try with_reducible rfl
    try simp only [Act.put, List.setIfInBounds_toArray, List.set_cons_zero, List.set_cons_succ]
    refine wpAnyH_take (i := 10) (oi := ⟨some 202, _, _, _, _, _⟩) (v := undef) rfl (by kernel_rfl) (by kernel_rfl) (by kernel_rfl) (fun _ _ _ h => h) (Or.inr ⟨by rfl, rfl⟩) (by assumption) ?_
    try simp only [Act.put, List.setIfInBounds_toArray, List.set_cons_zero, List.set_cons_succ]
    refine wpAnyH_take (i := 11) (oi := ⟨some 203, _, _, _, _, _⟩) (v := undef) rfl (by kernel_rfl) (by kernel_rfl) (by kernel_rfl) (fun _ _ _ h => h) (Or.inr ⟨by rfl, rfl⟩) (by assumption) ?_
    try simp only [Act.put, List.setIfInBounds_toArray, List.set_cons_zero, List.set_cons_succ]
    refine wpAnyH_take (i := 12) (oi := ⟨some 204, _, _, _, _, _⟩) (v := undef) rfl (by kernel_rfl) (by kernel_rfl) (by kernel_rfl) (fun _ _ _ h => h) (Or.inr ⟨by rfl, rfl⟩) (by assumption) ?_
    try simp only [Act.put, List.setIfInBounds_toArray, List.set_cons_zero, List.set_cons_succ]
    refine wpAnyH_take (i := 13) (oi := ⟨some 205, _, _, _, _, _⟩) (v := undef) rfl (by kernel_rfl) (by kernel_rfl) (by kernel_rfl) (fun _ _ _ h => h) (Or.inr ⟨by rfl, rfl⟩) (by assumption) ?_
    try simp only [Act.put, List.setIfInBounds_toArray, List.set_cons_zero, List.set_cons_succ]
    refine wpAnyH_take (i := 14) (oi := ⟨some 206, _, _, _, _, _⟩) (v := ?_) rfl (by kernel_rfl) (by kernel_rfl) (by kernel_rfl) (fun _ _ _ h => h) (Or.inl ⟨by rfl, ?_⟩) (by assumption) ?_
    rotate_left 1
    · intro w hSw
      go_split_ands
      go_simp
      try with_reducible rfl
    try simp only [Act.put, List.setIfInBounds_toArray, List.set_cons_zero, List.set_cons_succ]
    refine wpAnyH_take (i := 15) (oi := ⟨some 207, _, _, _, _, _⟩) (v := ?_) rfl (by kernel_rfl) (by kernel_rfl) (by kernel_rfl) (fun _ _ _ h => h) (Or.inl ⟨by rfl, ?_⟩) (by assumption) ?_
    rotate_left 1
    · intro w hSw
      go_split_ands
      go_simp
      try with_reducible rfl
    try simp only [Act.put, List.setIfInBounds_toArray, List.set_cons_zero, List.set_cons_succ]
    refine wpAnyH_take (i := 16) (oi := ⟨some 208, _, _, _, _, _⟩) (v := undef) rfl (by kernel_rfl) (by kernel_rfl) (by kernel_rfl) (fun _ _ _ h => h) (Or.inr ⟨by rfl, rfl⟩) (by assumption) ?_
    try simp only [Act.put, List.setIfInBounds_toArray, List.set_cons_zero, List.set_cons_succ]
    refine wpAnyH_take (i := 17) (oi := ⟨some 209, _, _, _, _, _⟩) (v := undef) rfl (by kernel_rfl) (by kernel_rfl) (by kernel_rfl) (fun _ _ _ h => h) (Or.inr ⟨by rfl, rfl⟩) (by assumption) ?_
    try simp only [Act.put, List.setIfInBounds_toArray, List.set_cons_zero, List.set_cons_succ]
    refine wpAnyH_take (i := 18) (oi := ⟨some 210, _, _, _, _, _⟩) (v := undef) rfl (by kernel_rfl) (by kernel_rfl) (by kernel_rfl) (fun _ _ _ h => h) (Or.inr ⟨by rfl, rfl⟩) (by assumption) ?_
    try simp only [Act.put, List.setIfInBounds_toArray, List.set_cons_zero, List.set_cons_succ]
    refine wpAnyH_take (i := 19) (oi := ⟨some 211, _, _, _, _, _⟩) (v := undef) rfl (by kernel_rfl) (by kernel_rfl) (by kernel_rfl) (fun _ _ _ h => h) (Or.inr ⟨by rfl, rfl⟩) (by assumption) ?_
    try simp only [Act.put, List.setIfInBounds_toArray, List.set_cons_zero, List.set_cons_succ]
    refine wpAnyH_take (i := 20) (oi := ⟨some 212, _, _, _, _, _⟩) (v := undef) rfl (by kernel_rfl) (by kernel_rfl) (by kernel_rfl) (fun _ _ _ h => h) (Or.inr ⟨by rfl, rfl⟩) (by assumption) ?_
    try simp only [Act.put, List.setIfInBounds_toArray, List.set_cons_zero, List.set_cons_succ]
    refine wpAnyH_take (i := 21) (oi := ⟨some 213, _, _, _, _, _⟩) (v := undef) rfl (by kernel_rfl) (by kernel_rfl) (by kernel_rfl) (fun _ _ _ h => h) (Or.inr ⟨by rfl, rfl⟩) (by assumption) ?_
    try simp only [Act.put, List.setIfInBounds_toArray, List.set_cons_zero, List.set_cons_succ]
    refine wpAnyH_take (i := 22) (oi := ⟨some 214, _, _, _, _, _⟩) (v := undef) rfl (by kernel_rfl) (by kernel_rfl) (by kernel_rfl) (fun _ _ _ h => h) (Or.inr ⟨by rfl, rfl⟩) (by assumption) ?_
    try simp only [Act.put, List.setIfInBounds_toArray, List.set_cons_zero, List.set_cons_succ]
    refine wpAnyH_take (i := 23) (oi := ⟨some 215, _, _, _, _, _⟩) (v := undef) rfl (by kernel_rfl) (by kernel_rfl) (by kernel_rfl) (fun _ _ _ h => h) (Or.inr ⟨by rfl, rfl⟩) (by assumption) ?_
    try simp only [Act.put, List.setIfInBounds_toArray, List.set_cons_zero, List.set_cons_succ]
    refine wpAnyH_take (i := 24) (oi := ⟨some 216, _, _, _, _, _⟩) (v := undef) rfl (by kernel_rfl) (by kernel_rfl) (by kernel_rfl) (fun _ _ _ h => h) (Or.inr ⟨by rfl, rfl⟩) (by assumption) ?_
    try simp only [Act.put, List.setIfInBounds_toArray, List.set_cons_zero, List.set_cons_succ]
    refine wpAnyH_take (i := 25) (oi := ⟨some 217, _, _, _, _, _⟩) (v := undef) rfl (by kernel_rfl) (by kernel_rfl) (by kernel_rfl) (fun _ _ _ h => h) (Or.inr ⟨by rfl, rfl⟩) (by assumption) ?_
    try simp only [Act.put, List.setIfInBounds_toArray, List.set_cons_zero, List.set_cons_succ]
    refine wpAnyH_take (i := 26) (oi := ⟨some 218, _, _, _, _, _⟩) (v := undef) rfl (by kernel_rfl) (by kernel_rfl) (by kernel_rfl) (fun _ _ _ h => h) (Or.inr ⟨by rfl, rfl⟩) (by assumption) ?_
    try simp only [Act.put, List.setIfInBounds_toArray, List.set_cons_zero, List.set_cons_succ]
    refine wpAnyH_take (i := 27) (oi := ⟨some 219, _, _, _, _, _⟩) (v := undef) rfl (by kernel_rfl) (by kernel_rfl) (by kernel_rfl) (fun _ _ _ h => h) (Or.inr ⟨by rfl, rfl⟩) (by assumption) ?_
    try simp only [Act.put, List.setIfInBounds_toArray, List.set_cons_zero, List.set_cons_succ]
    refine wpAnyH_take (i := 28) (oi := ⟨some 220, _, _, _, _, _⟩) (v := undef) rfl (by kernel_rfl) (by kernel_rfl) (by kernel_rfl) (fun _ _ _ h => h) (Or.inr ⟨by rfl, rfl⟩) (by assumption) ?_
    try simp only [Act.put, List.setIfInBounds_toArray, List.set_cons_zero, List.set_cons_succ]
    refine wpAnyH_take (i := 29) (oi := ⟨some 221, _, _, _, _, _⟩) (v := undef) rfl (by kernel_rfl) (by kernel_rfl) (by kernel_rfl) (fun _ _ _ h => h) (Or.inr ⟨by rfl, rfl⟩) (by assumption) ?_
    try simp only [Act.put, List.setIfInBounds_toArray, List.set_cons_zero, List.set_cons_succ]
    refine wpAnyH_take (i := 30) (oi := ⟨some 222, _, _, _, _, _⟩) (v := undef) rfl (by kernel_rfl) (by kernel_rfl) (by kernel_rfl) (fun _ _ _ h => h) (Or.inr ⟨by rfl, rfl⟩) (by assumption) ?_
    try simp only [Act.put, List.setIfInBounds_toArray, List.set_cons_zero, List.set_cons_succ]
    refine wpAnyH_take (i := 31) (oi := ⟨some 223, _, _, _, _, _⟩) (v := undef) rfl (by kernel_rfl) (by kernel_rfl) (by kernel_rfl) (fun _ _ _ h => h) (Or.inr ⟨by rfl, rfl⟩) (by assumption) ?_
    try simp only [Act.put, List.setIfInBounds_toArray, List.set_cons_zero, List.set_cons_succ]
    refine wpAnyH_take (i := 32) (oi := ⟨some 224, _, _, _, _, _⟩) (v := ?_) rfl (by kernel_rfl) (by kernel_rfl) (by kernel_rfl) (fun _ _ _ h => h) (Or.inl ⟨by rfl, ?_⟩) (by assumption) ?_
    rotate_left 1
    · intro w hSw
      go_split_ands
      go_simp
      try with_reducible rfl
    try simp only [Act.put, List.setIfInBounds_toArray, List.set_cons_zero, List.set_cons_succ]
    refine wpAnyH_done (by kernel_rfl) ?_ _
    refine NoPanic.normal ?_
    have H2 := hid (H.out.keep (((Below.refl _ _).drew).trans hbk))
    have HB2 := hid (H.out.bkeep (Below.refl base _) (((Below.refl _ _).drew).trans hbk))
    have d3 : w'.cell? ⟨R, 3, none⟩ = some (.slice At tn ct) := H2.out.cell 3 rfl
    go_wp2_with (at_builtin; refine wpl_oct rfl _ _ rfl base _ m.text n _ H2.out.text rfl rfl h0 h1 (by have := Htl.out; omega) H2.out.size ?_; intro v' w3 hO3 hg3; obtain ⟨A3, c3', hv3⟩ := OwnB.shapeV hO3 (n := tn + 1) (by rw [List.length_append, Htn.out]; rfl); subst hv3; have H3 := hid ((H2.out.alloc (.cells #[.int .u8 n] 5)).growT hg3 hO3); have HB3 := hid (below_grown (H2.out.bkeep (Below.refl base _) (alloc_below w' (.cells #[.int .u8 n] 5))) (H2.out.alloc (.cells #[.int .u8 n] 5)).size (OwnB.lo_ H2.out.text) hg3); have g3 := H3.out.fz 3; have q3 : w3.cell? ⟨R, 3, none⟩ = some (.slice At tn ct) := H3.out.cell 3 rfl; clear hO3 hg3)
    go_ret
    rw [Hq.out]
    exact ⟨⟨_, rfl, hid rfl⟩, Rf.rgs (m := { m with text := m.text ++ [bOf n] }) (H3.out.set 3 (.slice A3 (tn + 1) c3')) rfl rfl rfl rfl, HB2.out.trans (H3.out.bset HB3.out 3 _)⟩
  | true =>
    by_cases hlq : q < s.size
    · obtain ⟨d, hd', d0, d1, hbd⟩ := byteOf s q hlq
      have Hbl := hid (Hbl0.out d d0 d1)
      have Hq2 : Hid (s.data.toList[q]? = some (bOf d)) := hid (by rw [hbd, List.getElem?_eq_getElem (by rw [len_data]; exact hlq), data_get s q hlq])
      have hqi0 : (0 : Int) ≤ (q : Int) := by omega
      have hqi1 : (q : Int) < (s.size : Int) := by omega
      have hqi4 : (q : Int) ≤ (s.size : Int) := by omega
      have hqi2 : decide ((q : Int) < (s.size : Int)) = true := decide_eq_true hqi1
      have hqi3 : decide (q < s.size) = true := decide_eq_true hlq
      have Hr := hid (show endsB nm.data.toList (s.data.toList.drop i) = endC (bOf d) from by unfold endsB; rw [Hsb.out, Hget.out, Hq2.out]; rfl)
      obtain ⟨u, hu⟩ : ∃ u, i + 2 = u := ⟨_, rfl⟩
      have hui : (i : Int) + 2 = (u : Int) := by omega
      have hw1u : (u : Int) + (nm.size : Int) = (q : Int) := by omega
      have Hlow := hid (fun W => refLower_any (s.extract u q) W (by rw [ByteArray.size_extract]; omega))
      have Hsl : Hid ((s.extract u q).data.toList = ((s.data.toList.drop i).drop 2).take nm.size) := hid (by rw [data_extract, List.drop_take, List.drop_drop, hu]; congr 1; have := Hq0.out; omega)
      rw [Hsl.out] at Hlow
      have hu0 : (0 : Int) ≤ (u : Int) := by omega
      have huq : (u : Int) ≤ (q : Int) := by omega
      clear hbd hu
      by_cases hb : isBlank (bOf d) = true
      · rw [hb] at Hbl
        have Hq : Hid (p = ({ mText m (kk == 1) with st := 3, tag := { tk0 with k := 2, n := low (((s.data.toList.drop i).drop 2).take nm.size) } }, nm.size + 2)) := hid (by rw [Hp.out, if_pos (by rw [Hcond.out, Hr.out]; unfold endC; rw [hb]; rfl), Hkk.out, Hnn.out])
        go_enter Try.func31, Try.ntmps31
        go_wp2_with fail
        refine wp_region_noPanic ?_
        refine wp_region_held_drew (S := fun w' => w'.cell? ⟨R, 12, none⟩ = some (.string nm) ∧ Below w.heap.size w w' ∧ R < w'.heap.size) (by kernel_rfl) ⟨c12, (Below.refl _ _).drew, hRlt⟩ (fun hHeld => ?_)
        refine wpAnyH_take (i := 0) (oi := ⟨some 192, _, _, _, _, _⟩) (v := ?_) rfl (by kernel_rfl) (by kernel_rfl) (by kernel_rfl) (fun _ _ _ h => h) (Or.inl ⟨by rfl, ?_⟩) (by assumption) ?_
        rotate_left 1
        · intro w hSw
          go_split_ands
          go_simp
          try with_reducible rfl
        try simp only [Act.put, List.setIfInBounds_toArray, List.set_cons_zero, List.set_cons_succ]
        refine wpAnyH_take (i := 1) (oi := ⟨some 193, _, _, _, _, _⟩) (v := ?_) rfl (by kernel_rfl) (by kernel_rfl) (by kernel_rfl) (fun _ _ _ h => h) (Or.inl ⟨by rfl, ?_⟩) (by assumption) ?_
        rotate_left 1
        · intro w hSw
          go_split_ands
          go_simp
          try with_reducible rfl
        try simp only [Act.put, List.setIfInBounds_toArray, List.set_cons_zero, List.set_cons_succ]
        refine wpAnyH_take (i := 2) (oi := ⟨some 194, _, _, _, _, _⟩) (v := ?_) rfl (by kernel_rfl) (by kernel_rfl) (by kernel_rfl) (fun _ _ _ h => h) (Or.inl ⟨by rfl, ?_⟩) (by assumption) ?_
        rotate_left 1
        · intro w hSw
          go_split_ands
          go_simp
          try with_reducible rfl
        try simp only [Act.put, List.setIfInBounds_toArray, List.set_cons_zero, List.set_cons_succ]
        refine wpAnyH_take (i := 3) (oi := ⟨some 195, _, _, _, _, _⟩) (v := ?_) rfl (by kernel_rfl) (by kernel_rfl) (by kernel_rfl) (fun _ _ _ h => h) (Or.inl ⟨by rfl, ?_⟩) (by assumption) ?_
        rotate_left 1
        · intro w hSw
          go_split_ands
          go_simp
          try with_reducible rfl
        try simp only [Act.put, List.setIfInBounds_toArray, List.set_cons_zero, List.set_cons_succ]
        refine wpAnyH_take (i := 4) (oi := ⟨some 196, _, _, _, _, _⟩) (v := ?_) rfl (by kernel_rfl) (by kernel_rfl) (by kernel_rfl) (fun _ _ _ h => h) (Or.inl ⟨by rfl, ?_⟩) (by assumption) ?_
        rotate_left 1
        · intro w hSw
          go_split_ands
          go_simp
          try with_reducible rfl
        try simp only [Act.put, List.setIfInBounds_toArray, List.set_cons_zero, List.set_cons_succ]
        refine wpAnyH_take (i := 5) (oi := ⟨some 197, _, _, _, _, _⟩) (v := ?_) rfl (by kernel_rfl) (by kernel_rfl) (by kernel_rfl) (fun _ _ _ h => h) (Or.inl ⟨by rfl, ?_⟩) (by assumption) ?_
        rotate_left 1
        · intro w hSw
          go_split_ands
          go_simp
          try with_reducible rfl
        try simp only [Act.put, List.setIfInBounds_toArray, List.set_cons_zero, List.set_cons_succ]
        refine wpAnyH_take (i := 6) (oi := ⟨some 198, _, _, _, _, _⟩) (v := ?_) rfl (by kernel_rfl) (by kernel_rfl) (by kernel_rfl) (fun _ _ _ h => h) (Or.inl ⟨by rfl, ?_⟩) (by assumption) ?_
        rotate_left 1
        · intro w hSw
          go_split_ands
          go_simp
          try with_reducible rfl
        try simp only [Act.put, List.setIfInBounds_toArray, List.set_cons_zero, List.set_cons_succ]
        refine wpAnyH_take (i := 7) (oi := ⟨some 199, _, _, _, _, _⟩) (v := ?_) rfl (by kernel_rfl) (by kernel_rfl) (by kernel_rfl) (fun _ _ _ h => h) (Or.inl ⟨by rfl, ?_⟩) (by assumption) ?_
        rotate_left 1
        · intro w hSw
          go_split_ands
          go_simp
          try with_reducible rfl
        try simp only [Act.put, List.setIfInBounds_toArray, List.set_cons_zero, List.set_cons_succ]
        refine wpAnyH_ready (rs := [8]) (by kernel_rfl) (by simp) ?_
        refine AllReadyH.cons (o := ⟨some 200, _, _, _, _, _⟩) rfl (fun K hK => ?_) AllReadyH.nil
        go_simp
        go_at_call 53
        refine (Hst.out _).mono ?_
        rintro e' w' ⟨rfl, hbk⟩
        dsimp only
        refine hK.out _ _ ⟨cell_aft hbk hHeld.2.2 hHeld.1, hHeld.2.1.trans (hbk.mono hHeld.2.1.size), size_aft hbk hHeld.2.2⟩ (fun hHeld2 => ?_)
        clear hK K
        try simp only [Act.put, List.setIfInBounds_toArray, List.set_cons_zero, List.set_cons_succ]
        refine wpAnyH_take (i := 9) (oi := ⟨some 201, _, _, _, _, _⟩) (v := ?_) rfl (by kernel_rfl) (by kernel_rfl) (by kernel_rfl) (fun _ _ _ h => h) (Or.inl ⟨by rfl, ?_⟩) (by assumption) ?_
        rotate_left 1
        · intro w hSw
          go_split_ands
          go_simp
          try with_reducible rfl
        try simp only [Act.put, List.setIfInBounds_toArray, List.set_cons_zero, List.set_cons_succ]
        refine wpAnyH_take (i := 10) (oi := ⟨some 202, _, _, _, _, _⟩) (v := ?_) rfl (by kernel_rfl) (by kernel_rfl) (by kernel_rfl) (fun _ _ _ h => h) (Or.inl ⟨by rfl, ?_⟩) (by assumption) ?_
        rotate_left 1
        · intro w hSw
          go_split_ands
          go_simp
          try with_reducible rfl
        try simp only [Act.put, List.setIfInBounds_toArray, List.set_cons_zero, List.set_cons_succ]
        refine wpAnyH_take (i := 11) (oi := ⟨some 203, _, _, _, _, _⟩) (v := ?_) rfl (by kernel_rfl) (by kernel_rfl) (by kernel_rfl) (fun _ _ _ h => h) (Or.inl ⟨by rfl, ?_⟩) (by assumption) ?_
        rotate_left 1
        · intro w hSw
          go_split_ands
          go_simp
          try with_reducible rfl
        try simp only [Act.put, List.setIfInBounds_toArray, List.set_cons_zero, List.set_cons_succ]
        refine wpAnyH_take (i := 12) (oi := ⟨some 204, _, _, _, _, _⟩) (v := ?_) rfl (by kernel_rfl) (by kernel_rfl) (by kernel_rfl) (fun _ _ _ h => h) (Or.inl ⟨by rfl, ?_⟩) (by assumption) ?_
        rotate_left 1
        · intro w hSw
          go_split_ands
          go_simp
          try with_reducible rfl
        try simp only [Act.put, List.setIfInBounds_toArray, List.set_cons_zero, List.set_cons_succ]
        refine wpAnyH_take (i := 13) (oi := ⟨some 205, _, _, _, _, _⟩) (v := ?_) rfl (by kernel_rfl) (by kernel_rfl) (by kernel_rfl) (fun _ _ _ h => h) (Or.inl ⟨by rfl, ?_⟩) (by assumption) ?_
        rotate_left 1
        · intro w hSw
          go_split_ands
          go_simp
          try with_reducible rfl
        try simp only [Act.put, List.setIfInBounds_toArray, List.set_cons_zero, List.set_cons_succ]
        refine wpAnyH_take (i := 14) (oi := ⟨some 206, _, _, _, _, _⟩) (v := ?_) rfl (by kernel_rfl) (by kernel_rfl) (by kernel_rfl) (fun _ _ _ h => h) (Or.inl ⟨by rfl, ?_⟩) (by assumption) ?_
        rotate_left 1
        · intro w hSw
          go_split_ands
          go_simp
          try with_reducible rfl
        try simp only [Act.put, List.setIfInBounds_toArray, List.set_cons_zero, List.set_cons_succ]
        refine wpAnyH_take (i := 15) (oi := ⟨some 207, _, _, _, _, _⟩) (v := ?_) rfl (by kernel_rfl) (by kernel_rfl) (by kernel_rfl) (fun _ _ _ h => h) (Or.inl ⟨by rfl, ?_⟩) (by assumption) ?_
        rotate_left 1
        · intro w hSw
          go_split_ands
          go_simp
          try with_reducible rfl
        try simp only [Act.put, List.setIfInBounds_toArray, List.set_cons_zero, List.set_cons_succ]
        refine wpAnyH_take (i := 16) (oi := ⟨some 208, _, _, _, _, _⟩) (v := ?_) rfl (by kernel_rfl) (by kernel_rfl) (by kernel_rfl) (fun _ _ _ h => h) (Or.inl ⟨by rfl, ?_⟩) (by assumption) ?_
        rotate_left 1
        · intro w hSw
          go_split_ands
          go_simp
          try with_reducible rfl
        try simp only [Act.put, List.setIfInBounds_toArray, List.set_cons_zero, List.set_cons_succ]
        refine wpAnyH_take (i := 17) (oi := ⟨some 209, _, _, _, _, _⟩) (v := ?_) rfl (by kernel_rfl) (by kernel_rfl) (by kernel_rfl) (fun _ _ _ h => h) (Or.inl ⟨by rfl, ?_⟩) (by assumption) ?_
        rotate_left 1
        · intro w hSw
          go_split_ands
          go_simp
          try with_reducible rfl
        try simp only [Act.put, List.setIfInBounds_toArray, List.set_cons_zero, List.set_cons_succ]
        refine wpAnyH_take (i := 18) (oi := ⟨some 210, _, _, _, _, _⟩) (v := ?_) rfl (by kernel_rfl) (by kernel_rfl) (by kernel_rfl) (fun _ _ _ h => h) (Or.inl ⟨by rfl, ?_⟩) (by assumption) ?_
        rotate_left 1
        · intro w hSw
          go_split_ands
          go_simp
          try with_reducible rfl
        try simp only [Act.put, List.setIfInBounds_toArray, List.set_cons_zero, List.set_cons_succ]
        refine wpAnyH_ready (rs := [19]) (by kernel_rfl) (by simp) ?_
        refine AllReadyH.cons (o := ⟨some 211, _, _, _, _, _⟩) rfl (fun K hK => ?_) AllReadyH.nil
        go_simp
        go_at_call 48
        refine (Hbl.out _).mono ?_
        rintro e2 w2 ⟨rfl, hw2⟩
        subst w2
        dsimp only
        refine hK.out _ _ hHeld2 (fun _ => ?_)
        clear hK K
        try simp only [Act.put, List.setIfInBounds_toArray, List.set_cons_zero, List.set_cons_succ]
        refine wpAnyH_take (i := 20) (oi := ⟨some 212, _, _, _, _, _⟩) (v := ?_) rfl (by kernel_rfl) (by kernel_rfl) (by kernel_rfl) (fun _ _ _ h => h) (Or.inl ⟨by rfl, ?_⟩) (by assumption) ?_
        rotate_left 1
        · intro w hSw
          go_split_ands
          go_simp
          try with_reducible rfl
        try simp only [Act.put, List.setIfInBounds_toArray, List.set_cons_zero, List.set_cons_succ]
        refine wpAnyH_take (i := 21) (oi := ⟨some 213, _, _, _, _, _⟩) (v := undef) rfl (by kernel_rfl) (by kernel_rfl) (by kernel_rfl) (fun _ _ _ h => h) (Or.inr ⟨by rfl, rfl⟩) (by assumption) ?_
        try simp only [Act.put, List.setIfInBounds_toArray, List.set_cons_zero, List.set_cons_succ]
        refine wpAnyH_take (i := 22) (oi := ⟨some 214, _, _, _, _, _⟩) (v := undef) rfl (by kernel_rfl) (by kernel_rfl) (by kernel_rfl) (fun _ _ _ h => h) (Or.inr ⟨by rfl, rfl⟩) (by assumption) ?_
        try simp only [Act.put, List.setIfInBounds_toArray, List.set_cons_zero, List.set_cons_succ]
        refine wpAnyH_take (i := 23) (oi := ⟨some 215, _, _, _, _, _⟩) (v := undef) rfl (by kernel_rfl) (by kernel_rfl) (by kernel_rfl) (fun _ _ _ h => h) (Or.inr ⟨by rfl, rfl⟩) (by assumption) ?_
        try simp only [Act.put, List.setIfInBounds_toArray, List.set_cons_zero, List.set_cons_succ]
        refine wpAnyH_take (i := 24) (oi := ⟨some 216, _, _, _, _, _⟩) (v := undef) rfl (by kernel_rfl) (by kernel_rfl) (by kernel_rfl) (fun _ _ _ h => h) (Or.inr ⟨by rfl, rfl⟩) (by assumption) ?_
        try simp only [Act.put, List.setIfInBounds_toArray, List.set_cons_zero, List.set_cons_succ]
        refine wpAnyH_take (i := 25) (oi := ⟨some 217, _, _, _, _, _⟩) (v := ?_) rfl (by kernel_rfl) (by kernel_rfl) (by kernel_rfl) (fun _ _ _ h => h) (Or.inl ⟨by rfl, ?_⟩) (by assumption) ?_
        rotate_left 1
        · intro w hSw
          go_split_ands
          go_simp
          try with_reducible rfl
        try simp only [Act.put, List.setIfInBounds_toArray, List.set_cons_zero, List.set_cons_succ]
        refine wpAnyH_take (i := 26) (oi := ⟨some 218, _, _, _, _, _⟩) (v := ?_) rfl (by kernel_rfl) (by kernel_rfl) (by kernel_rfl) (fun _ _ _ h => h) (Or.inl ⟨by rfl, ?_⟩) (by assumption) ?_
        rotate_left 1
        · intro w hSw
          go_split_ands
          go_simp
          try with_reducible rfl
        try simp only [Act.put, List.setIfInBounds_toArray, List.set_cons_zero, List.set_cons_succ]
        refine wpAnyH_take (i := 27) (oi := ⟨some 219, _, _, _, _, _⟩) (v := undef) rfl (by kernel_rfl) (by kernel_rfl) (by kernel_rfl) (fun _ _ _ h => h) (Or.inr ⟨by rfl, rfl⟩) (by assumption) ?_
        try simp only [Act.put, List.setIfInBounds_toArray, List.set_cons_zero, List.set_cons_succ]
        refine wpAnyH_take (i := 28) (oi := ⟨some 220, _, _, _, _, _⟩) (v := undef) rfl (by kernel_rfl) (by kernel_rfl) (by kernel_rfl) (fun _ _ _ h => h) (Or.inr ⟨by rfl, rfl⟩) (by assumption) ?_
        try simp only [Act.put, List.setIfInBounds_toArray, List.set_cons_zero, List.set_cons_succ]
        refine wpAnyH_take (i := 29) (oi := ⟨some 221, _, _, _, _, _⟩) (v := undef) rfl (by kernel_rfl) (by kernel_rfl) (by kernel_rfl) (fun _ _ _ h => h) (Or.inr ⟨by rfl, rfl⟩) (by assumption) ?_
        try simp only [Act.put, List.setIfInBounds_toArray, List.set_cons_zero, List.set_cons_succ]
        refine wpAnyH_take (i := 30) (oi := ⟨some 222, _, _, _, _, _⟩) (v := undef) rfl (by kernel_rfl) (by kernel_rfl) (by kernel_rfl) (fun _ _ _ h => h) (Or.inr ⟨by rfl, rfl⟩) (by assumption) ?_
        try simp only [Act.put, List.setIfInBounds_toArray, List.set_cons_zero, List.set_cons_succ]
        refine wpAnyH_take (i := 31) (oi := ⟨some 223, _, _, _, _, _⟩) (v := ?_) rfl (by kernel_rfl) (by kernel_rfl) (by kernel_rfl) (fun _ _ _ h => h) (Or.inl ⟨by rfl, ?_⟩) (by assumption) ?_
        rotate_left 1
        · intro w hSw
          go_split_ands
          go_simp
          try with_reducible rfl
        try simp only [Act.put, List.setIfInBounds_toArray, List.set_cons_zero, List.set_cons_succ]
        refine wpAnyH_take (i := 32) (oi := ⟨some 224, _, _, _, _, _⟩) (v := ?_) rfl (by kernel_rfl) (by kernel_rfl) (by kernel_rfl) (fun _ _ _ h => h) (Or.inl ⟨by rfl, ?_⟩) (by assumption) ?_
        rotate_left 1
        · intro w hSw
          go_split_ands
          go_simp
          try with_reducible rfl
        try simp only [Act.put, List.setIfInBounds_toArray, List.set_cons_zero, List.set_cons_succ]
        refine wpAnyH_done (by kernel_rfl) ?_ _
        refine NoPanic.normal ?_
        have H2 := hid (H.out.keep (((Below.refl _ _).drew).trans hbk))
        have HB2 := hid (H.out.bkeep (Below.refl base _) (((Below.refl _ _).drew).trans hbk))
        have d13 : w'.cell? ⟨R, 13, none⟩ = some (.int .i64 kk) := H2.out.cell 13 (by rw [← Hkk.out]; rfl)
        go_wp2_with fail
        refine (htext.out (kk == 1) _ (Hrf.out.keep (((Below.refl _ _).drew).trans hbk))).mono ?_
        rintro e w3 ⟨rfl, ⟨VO1, VT1, VA1, B1, hrf1⟩, hb1⟩
        have HP := hid hrf1
        have HB := hid hb1
        clear hrf1 hb1
        go_wp2_with fail
        refine (Hlow.out _).mono ?_
        rintro e4 w4 ⟨t, rfl, ht, hbl⟩
        have H4 := hid (HP.out.keep hbl)
        have HB4 := hid (HB2.out.trans (HP.out.bkeep HB.out hbl))
        have k2 := H4.out.cell 2 rfl
        have k4 := H4.out.cell 4 rfl
        have k5 := H4.out.cell 5 rfl
        have k6 := H4.out.cell 6 rfl
        have k7 := H4.out.cell 7 rfl
        have k8 := H4.out.cell 8 rfl
        have g2 := H4.out.fz 2
        have g4 := H4.out.fz 4
        have g5 := H4.out.fz 5
        have g6 := H4.out.fz 6
        have g7 := H4.out.fz 7
        have g8 := H4.out.fz 8
        go_wp2
        go_ret
        rw [Hq.out]
        exact ⟨⟨_, rfl, hid (by first | rfl | (simp only; omega))⟩, Rf.rgs (m := { mText m (kk == 1) with st := 3, tag := { tk0 with k := 2, n := low (((s.data.toList.drop i).drop 2).take nm.size) } }) (H4.out.tagS 2 t) (by rw [← ht.out]; rfl) rfl rfl rfl, H4.out.btagS HB4.out 2 t⟩
      · have hb' : isBlank (bOf d) = false := by simpa using hb
        rw [hb'] at Hbl
        by_cases h47 : d = 47
        · subst h47
          have Hq : Hid (p = ({ mText m (kk == 1) with st := 3, tag := { tk0 with k := 2, n := low (((s.data.toList.drop i).drop 2).take nm.size) } }, nm.size + 2)) := hid (by rw [Hp.out, if_pos (by rw [Hcond.out, Hr.out]; rfl), Hkk.out, Hnn.out])
          go_enter Try.func31, Try.ntmps31
          go_wp2_with fail
          refine wp_region_noPanic ?_
          refine wp_region_held_drew (S := fun w' => w'.cell? ⟨R, 12, none⟩ = some (.string nm) ∧ Below w.heap.size w w' ∧ R < w'.heap.size) (by kernel_rfl) ⟨c12, (Below.refl _ _).drew, hRlt⟩ (fun hHeld => ?_)
          refine wpAnyH_take (i := 0) (oi := ⟨some 192, _, _, _, _, _⟩) (v := ?_) rfl (by kernel_rfl) (by kernel_rfl) (by kernel_rfl) (fun _ _ _ h => h) (Or.inl ⟨by rfl, ?_⟩) (by assumption) ?_
          rotate_left 1
          · intro w hSw
            go_split_ands
            go_simp
            try with_reducible rfl
          try simp only [Act.put, List.setIfInBounds_toArray, List.set_cons_zero, List.set_cons_succ]
          refine wpAnyH_take (i := 1) (oi := ⟨some 193, _, _, _, _, _⟩) (v := ?_) rfl (by kernel_rfl) (by kernel_rfl) (by kernel_rfl) (fun _ _ _ h => h) (Or.inl ⟨by rfl, ?_⟩) (by assumption) ?_
          rotate_left 1
          · intro w hSw
            go_split_ands
            go_simp
            try with_reducible rfl
          try simp only [Act.put, List.setIfInBounds_toArray, List.set_cons_zero, List.set_cons_succ]
          refine wpAnyH_take (i := 2) (oi := ⟨some 194, _, _, _, _, _⟩) (v := ?_) rfl (by kernel_rfl) (by kernel_rfl) (by kernel_rfl) (fun _ _ _ h => h) (Or.inl ⟨by rfl, ?_⟩) (by assumption) ?_
          rotate_left 1
          · intro w hSw
            go_split_ands
            go_simp
            try with_reducible rfl
          try simp only [Act.put, List.setIfInBounds_toArray, List.set_cons_zero, List.set_cons_succ]
          refine wpAnyH_take (i := 3) (oi := ⟨some 195, _, _, _, _, _⟩) (v := ?_) rfl (by kernel_rfl) (by kernel_rfl) (by kernel_rfl) (fun _ _ _ h => h) (Or.inl ⟨by rfl, ?_⟩) (by assumption) ?_
          rotate_left 1
          · intro w hSw
            go_split_ands
            go_simp
            try with_reducible rfl
          try simp only [Act.put, List.setIfInBounds_toArray, List.set_cons_zero, List.set_cons_succ]
          refine wpAnyH_take (i := 4) (oi := ⟨some 196, _, _, _, _, _⟩) (v := ?_) rfl (by kernel_rfl) (by kernel_rfl) (by kernel_rfl) (fun _ _ _ h => h) (Or.inl ⟨by rfl, ?_⟩) (by assumption) ?_
          rotate_left 1
          · intro w hSw
            go_split_ands
            go_simp
            try with_reducible rfl
          try simp only [Act.put, List.setIfInBounds_toArray, List.set_cons_zero, List.set_cons_succ]
          refine wpAnyH_take (i := 5) (oi := ⟨some 197, _, _, _, _, _⟩) (v := ?_) rfl (by kernel_rfl) (by kernel_rfl) (by kernel_rfl) (fun _ _ _ h => h) (Or.inl ⟨by rfl, ?_⟩) (by assumption) ?_
          rotate_left 1
          · intro w hSw
            go_split_ands
            go_simp
            try with_reducible rfl
          try simp only [Act.put, List.setIfInBounds_toArray, List.set_cons_zero, List.set_cons_succ]
          refine wpAnyH_take (i := 6) (oi := ⟨some 198, _, _, _, _, _⟩) (v := ?_) rfl (by kernel_rfl) (by kernel_rfl) (by kernel_rfl) (fun _ _ _ h => h) (Or.inl ⟨by rfl, ?_⟩) (by assumption) ?_
          rotate_left 1
          · intro w hSw
            go_split_ands
            go_simp
            try with_reducible rfl
          try simp only [Act.put, List.setIfInBounds_toArray, List.set_cons_zero, List.set_cons_succ]
          refine wpAnyH_take (i := 7) (oi := ⟨some 199, _, _, _, _, _⟩) (v := ?_) rfl (by kernel_rfl) (by kernel_rfl) (by kernel_rfl) (fun _ _ _ h => h) (Or.inl ⟨by rfl, ?_⟩) (by assumption) ?_
          rotate_left 1
          · intro w hSw
            go_split_ands
            go_simp
            try with_reducible rfl
          try simp only [Act.put, List.setIfInBounds_toArray, List.set_cons_zero, List.set_cons_succ]
          refine wpAnyH_ready (rs := [8]) (by kernel_rfl) (by simp) ?_
          refine AllReadyH.cons (o := ⟨some 200, _, _, _, _, _⟩) rfl (fun K hK => ?_) AllReadyH.nil
          go_simp
          go_at_call 53
          refine (Hst.out _).mono ?_
          rintro e' w' ⟨rfl, hbk⟩
          dsimp only
          refine hK.out _ _ ⟨cell_aft hbk hHeld.2.2 hHeld.1, hHeld.2.1.trans (hbk.mono hHeld.2.1.size), size_aft hbk hHeld.2.2⟩ (fun hHeld2 => ?_)
          clear hK K
          try simp only [Act.put, List.setIfInBounds_toArray, List.set_cons_zero, List.set_cons_succ]
          refine wpAnyH_take (i := 9) (oi := ⟨some 201, _, _, _, _, _⟩) (v := ?_) rfl (by kernel_rfl) (by kernel_rfl) (by kernel_rfl) (fun _ _ _ h => h) (Or.inl ⟨by rfl, ?_⟩) (by assumption) ?_
          rotate_left 1
          · intro w hSw
            go_split_ands
            go_simp
            try with_reducible rfl
          try simp only [Act.put, List.setIfInBounds_toArray, List.set_cons_zero, List.set_cons_succ]
          refine wpAnyH_take (i := 10) (oi := ⟨some 202, _, _, _, _, _⟩) (v := ?_) rfl (by kernel_rfl) (by kernel_rfl) (by kernel_rfl) (fun _ _ _ h => h) (Or.inl ⟨by rfl, ?_⟩) (by assumption) ?_
          rotate_left 1
          · intro w hSw
            go_split_ands
            go_simp
            try with_reducible rfl
          try simp only [Act.put, List.setIfInBounds_toArray, List.set_cons_zero, List.set_cons_succ]
          refine wpAnyH_take (i := 11) (oi := ⟨some 203, _, _, _, _, _⟩) (v := ?_) rfl (by kernel_rfl) (by kernel_rfl) (by kernel_rfl) (fun _ _ _ h => h) (Or.inl ⟨by rfl, ?_⟩) (by assumption) ?_
          rotate_left 1
          · intro w hSw
            go_split_ands
            go_simp
            try with_reducible rfl
          try simp only [Act.put, List.setIfInBounds_toArray, List.set_cons_zero, List.set_cons_succ]
          refine wpAnyH_take (i := 12) (oi := ⟨some 204, _, _, _, _, _⟩) (v := ?_) rfl (by kernel_rfl) (by kernel_rfl) (by kernel_rfl) (fun _ _ _ h => h) (Or.inl ⟨by rfl, ?_⟩) (by assumption) ?_
          rotate_left 1
          · intro w hSw
            go_split_ands
            go_simp
            try with_reducible rfl
          try simp only [Act.put, List.setIfInBounds_toArray, List.set_cons_zero, List.set_cons_succ]
          refine wpAnyH_take (i := 13) (oi := ⟨some 205, _, _, _, _, _⟩) (v := ?_) rfl (by kernel_rfl) (by kernel_rfl) (by kernel_rfl) (fun _ _ _ h => h) (Or.inl ⟨by rfl, ?_⟩) (by assumption) ?_
          rotate_left 1
          · intro w hSw
            go_split_ands
            go_simp
            try with_reducible rfl
          try simp only [Act.put, List.setIfInBounds_toArray, List.set_cons_zero, List.set_cons_succ]
          refine wpAnyH_take (i := 14) (oi := ⟨some 206, _, _, _, _, _⟩) (v := ?_) rfl (by kernel_rfl) (by kernel_rfl) (by kernel_rfl) (fun _ _ _ h => h) (Or.inl ⟨by rfl, ?_⟩) (by assumption) ?_
          rotate_left 1
          · intro w hSw
            go_split_ands
            go_simp
            try with_reducible rfl
          try simp only [Act.put, List.setIfInBounds_toArray, List.set_cons_zero, List.set_cons_succ]
          refine wpAnyH_take (i := 15) (oi := ⟨some 207, _, _, _, _, _⟩) (v := ?_) rfl (by kernel_rfl) (by kernel_rfl) (by kernel_rfl) (fun _ _ _ h => h) (Or.inl ⟨by rfl, ?_⟩) (by assumption) ?_
          rotate_left 1
          · intro w hSw
            go_split_ands
            go_simp
            try with_reducible rfl
          try simp only [Act.put, List.setIfInBounds_toArray, List.set_cons_zero, List.set_cons_succ]
          refine wpAnyH_take (i := 16) (oi := ⟨some 208, _, _, _, _, _⟩) (v := ?_) rfl (by kernel_rfl) (by kernel_rfl) (by kernel_rfl) (fun _ _ _ h => h) (Or.inl ⟨by rfl, ?_⟩) (by assumption) ?_
          rotate_left 1
          · intro w hSw
            go_split_ands
            go_simp
            try with_reducible rfl
          try simp only [Act.put, List.setIfInBounds_toArray, List.set_cons_zero, List.set_cons_succ]
          refine wpAnyH_take (i := 17) (oi := ⟨some 209, _, _, _, _, _⟩) (v := ?_) rfl (by kernel_rfl) (by kernel_rfl) (by kernel_rfl) (fun _ _ _ h => h) (Or.inl ⟨by rfl, ?_⟩) (by assumption) ?_
          rotate_left 1
          · intro w hSw
            go_split_ands
            go_simp
            try with_reducible rfl
          try simp only [Act.put, List.setIfInBounds_toArray, List.set_cons_zero, List.set_cons_succ]
          refine wpAnyH_take (i := 18) (oi := ⟨some 210, _, _, _, _, _⟩) (v := ?_) rfl (by kernel_rfl) (by kernel_rfl) (by kernel_rfl) (fun _ _ _ h => h) (Or.inl ⟨by rfl, ?_⟩) (by assumption) ?_
          rotate_left 1
          · intro w hSw
            go_split_ands
            go_simp
            try with_reducible rfl
          try simp only [Act.put, List.setIfInBounds_toArray, List.set_cons_zero, List.set_cons_succ]
          refine wpAnyH_ready (rs := [19]) (by kernel_rfl) (by simp) ?_
          refine AllReadyH.cons (o := ⟨some 211, _, _, _, _, _⟩) rfl (fun K hK => ?_) AllReadyH.nil
          go_simp
          go_at_call 48
          refine (Hbl.out _).mono ?_
          rintro e2 w2 ⟨rfl, hw2⟩
          subst w2
          dsimp only
          refine hK.out _ _ hHeld2 (fun _ => ?_)
          clear hK K
          try simp only [Act.put, List.setIfInBounds_toArray, List.set_cons_zero, List.set_cons_succ]
          refine wpAnyH_take (i := 20) (oi := ⟨some 212, _, _, _, _, _⟩) (v := ?_) rfl (by kernel_rfl) (by kernel_rfl) (by kernel_rfl) (fun _ _ _ h => h) (Or.inl ⟨by rfl, ?_⟩) (by assumption) ?_
          rotate_left 1
          · intro w hSw
            go_split_ands
            go_simp
            try with_reducible rfl
          try simp only [Act.put, List.setIfInBounds_toArray, List.set_cons_zero, List.set_cons_succ]
          refine wpAnyH_take (i := 21) (oi := ⟨some 213, _, _, _, _, _⟩) (v := ?_) rfl (by kernel_rfl) (by kernel_rfl) (by kernel_rfl) (fun _ _ _ h => h) (Or.inl ⟨by rfl, ?_⟩) (by assumption) ?_
          rotate_left 1
          · intro w hSw
            go_split_ands
            go_simp
            try with_reducible rfl
          try simp only [Act.put, List.setIfInBounds_toArray, List.set_cons_zero, List.set_cons_succ]
          refine wpAnyH_take (i := 22) (oi := ⟨some 214, _, _, _, _, _⟩) (v := ?_) rfl (by kernel_rfl) (by kernel_rfl) (by kernel_rfl) (fun _ _ _ h => h) (Or.inl ⟨by rfl, ?_⟩) (by assumption) ?_
          rotate_left 1
          · intro w hSw
            go_split_ands
            go_simp
            try with_reducible rfl
          try simp only [Act.put, List.setIfInBounds_toArray, List.set_cons_zero, List.set_cons_succ]
          refine wpAnyH_take (i := 23) (oi := ⟨some 215, _, _, _, _, _⟩) (v := ?_) rfl (by kernel_rfl) (by kernel_rfl) (by kernel_rfl) (fun _ _ _ h => h) (Or.inl ⟨by rfl, ?_⟩) (by assumption) ?_
          rotate_left 1
          · intro w hSw
            go_split_ands
            go_simp
            try with_reducible rfl
          try simp only [Act.put, List.setIfInBounds_toArray, List.set_cons_zero, List.set_cons_succ]
          refine wpAnyH_take (i := 24) (oi := ⟨some 216, _, _, _, _, _⟩) (v := ?_) rfl (by kernel_rfl) (by kernel_rfl) (by kernel_rfl) (fun _ _ _ h => h) (Or.inl ⟨by rfl, ?_⟩) (by assumption) ?_
          rotate_left 1
          · intro w hSw
            go_split_ands
            go_simp
            try with_reducible rfl
          try simp only [Act.put, List.setIfInBounds_toArray, List.set_cons_zero, List.set_cons_succ]
          refine wpAnyH_take (i := 25) (oi := ⟨some 217, _, _, _, _, _⟩) (v := ?_) rfl (by kernel_rfl) (by kernel_rfl) (by kernel_rfl) (fun _ _ _ h => h) (Or.inl ⟨by rfl, ?_⟩) (by assumption) ?_
          rotate_left 1
          · intro w hSw
            go_split_ands
            go_simp
            try with_reducible rfl
          try simp only [Act.put, List.setIfInBounds_toArray, List.set_cons_zero, List.set_cons_succ]
          refine wpAnyH_take (i := 26) (oi := ⟨some 218, _, _, _, _, _⟩) (v := ?_) rfl (by kernel_rfl) (by kernel_rfl) (by kernel_rfl) (fun _ _ _ h => h) (Or.inl ⟨by rfl, ?_⟩) (by assumption) ?_
          rotate_left 1
          · intro w hSw
            go_split_ands
            go_simp
            try with_reducible rfl
          try simp only [Act.put, List.setIfInBounds_toArray, List.set_cons_zero, List.set_cons_succ]
          refine wpAnyH_take (i := 27) (oi := ⟨some 219, _, _, _, _, _⟩) (v := undef) rfl (by kernel_rfl) (by kernel_rfl) (by kernel_rfl) (fun _ _ _ h => h) (Or.inr ⟨by rfl, rfl⟩) (by assumption) ?_
          try simp only [Act.put, List.setIfInBounds_toArray, List.set_cons_zero, List.set_cons_succ]
          refine wpAnyH_take (i := 28) (oi := ⟨some 220, _, _, _, _, _⟩) (v := undef) rfl (by kernel_rfl) (by kernel_rfl) (by kernel_rfl) (fun _ _ _ h => h) (Or.inr ⟨by rfl, rfl⟩) (by assumption) ?_
          try simp only [Act.put, List.setIfInBounds_toArray, List.set_cons_zero, List.set_cons_succ]
          refine wpAnyH_take (i := 29) (oi := ⟨some 221, _, _, _, _, _⟩) (v := undef) rfl (by kernel_rfl) (by kernel_rfl) (by kernel_rfl) (fun _ _ _ h => h) (Or.inr ⟨by rfl, rfl⟩) (by assumption) ?_
          try simp only [Act.put, List.setIfInBounds_toArray, List.set_cons_zero, List.set_cons_succ]
          refine wpAnyH_take (i := 30) (oi := ⟨some 222, _, _, _, _, _⟩) (v := undef) rfl (by kernel_rfl) (by kernel_rfl) (by kernel_rfl) (fun _ _ _ h => h) (Or.inr ⟨by rfl, rfl⟩) (by assumption) ?_
          try simp only [Act.put, List.setIfInBounds_toArray, List.set_cons_zero, List.set_cons_succ]
          refine wpAnyH_take (i := 31) (oi := ⟨some 223, _, _, _, _, _⟩) (v := ?_) rfl (by kernel_rfl) (by kernel_rfl) (by kernel_rfl) (fun _ _ _ h => h) (Or.inl ⟨by rfl, ?_⟩) (by assumption) ?_
          rotate_left 1
          · intro w hSw
            go_split_ands
            go_simp
            try with_reducible rfl
          try simp only [Act.put, List.setIfInBounds_toArray, List.set_cons_zero, List.set_cons_succ]
          refine wpAnyH_take (i := 32) (oi := ⟨some 224, _, _, _, _, _⟩) (v := ?_) rfl (by kernel_rfl) (by kernel_rfl) (by kernel_rfl) (fun _ _ _ h => h) (Or.inl ⟨by rfl, ?_⟩) (by assumption) ?_
          rotate_left 1
          · intro w hSw
            go_split_ands
            go_simp
            try with_reducible rfl
          try simp only [Act.put, List.setIfInBounds_toArray, List.set_cons_zero, List.set_cons_succ]
          refine wpAnyH_done (by kernel_rfl) ?_ _
          refine NoPanic.normal ?_
          have H2 := hid (H.out.keep (((Below.refl _ _).drew).trans hbk))
          have HB2 := hid (H.out.bkeep (Below.refl base _) (((Below.refl _ _).drew).trans hbk))
          have d13 : w'.cell? ⟨R, 13, none⟩ = some (.int .i64 kk) := H2.out.cell 13 (by rw [← Hkk.out]; rfl)
          go_wp2_with fail
          refine (htext.out (kk == 1) _ (Hrf.out.keep (((Below.refl _ _).drew).trans hbk))).mono ?_
          rintro e w3 ⟨rfl, ⟨VO1, VT1, VA1, B1, hrf1⟩, hb1⟩
          have HP := hid hrf1
          have HB := hid hb1
          clear hrf1 hb1
          go_wp2_with fail
          refine (Hlow.out _).mono ?_
          rintro e4 w4 ⟨t, rfl, ht, hbl⟩
          have H4 := hid (HP.out.keep hbl)
          have HB4 := hid (HB2.out.trans (HP.out.bkeep HB.out hbl))
          have k2 := H4.out.cell 2 rfl
          have k4 := H4.out.cell 4 rfl
          have k5 := H4.out.cell 5 rfl
          have k6 := H4.out.cell 6 rfl
          have k7 := H4.out.cell 7 rfl
          have k8 := H4.out.cell 8 rfl
          have g2 := H4.out.fz 2
          have g4 := H4.out.fz 4
          have g5 := H4.out.fz 5
          have g6 := H4.out.fz 6
          have g7 := H4.out.fz 7
          have g8 := H4.out.fz 8
          go_wp2
          go_ret
          rw [Hq.out]
          exact ⟨⟨_, rfl, hid (by first | rfl | (simp only; omega))⟩, Rf.rgs (m := { mText m (kk == 1) with st := 3, tag := { tk0 with k := 2, n := low (((s.data.toList.drop i).drop 2).take nm.size) } }) (H4.out.tagS 2 t) (by rw [← ht.out]; rfl) rfl rfl rfl, H4.out.btagS HB4.out 2 t⟩
        · have h47b : (d == 47) = false := beq_eq_false_iff_ne.2 h47
          have e47 := bOf_no d d0 d1 47 47 rfl h47
          by_cases h62 : d = 62
          · subst h62
            have Hq : Hid (p = ({ mText m (kk == 1) with st := 3, tag := { tk0 with k := 2, n := low (((s.data.toList.drop i).drop 2).take nm.size) } }, nm.size + 2)) := hid (by rw [Hp.out, if_pos (by rw [Hcond.out, Hr.out]; rfl), Hkk.out, Hnn.out])
            go_enter Try.func31, Try.ntmps31
            go_wp2_with fail
            refine wp_region_noPanic ?_
            refine wp_region_held_drew (S := fun w' => w'.cell? ⟨R, 12, none⟩ = some (.string nm) ∧ Below w.heap.size w w' ∧ R < w'.heap.size) (by kernel_rfl) ⟨c12, (Below.refl _ _).drew, hRlt⟩ (fun hHeld => ?_)
            refine wpAnyH_take (i := 0) (oi := ⟨some 192, _, _, _, _, _⟩) (v := ?_) rfl (by kernel_rfl) (by kernel_rfl) (by kernel_rfl) (fun _ _ _ h => h) (Or.inl ⟨by rfl, ?_⟩) (by assumption) ?_
            rotate_left 1
            · intro w hSw
              go_split_ands
              go_simp
              try with_reducible rfl
            try simp only [Act.put, List.setIfInBounds_toArray, List.set_cons_zero, List.set_cons_succ]
            refine wpAnyH_take (i := 1) (oi := ⟨some 193, _, _, _, _, _⟩) (v := ?_) rfl (by kernel_rfl) (by kernel_rfl) (by kernel_rfl) (fun _ _ _ h => h) (Or.inl ⟨by rfl, ?_⟩) (by assumption) ?_
            rotate_left 1
            · intro w hSw
              go_split_ands
              go_simp
              try with_reducible rfl
            try simp only [Act.put, List.setIfInBounds_toArray, List.set_cons_zero, List.set_cons_succ]
            refine wpAnyH_take (i := 2) (oi := ⟨some 194, _, _, _, _, _⟩) (v := ?_) rfl (by kernel_rfl) (by kernel_rfl) (by kernel_rfl) (fun _ _ _ h => h) (Or.inl ⟨by rfl, ?_⟩) (by assumption) ?_
            rotate_left 1
            · intro w hSw
              go_split_ands
              go_simp
              try with_reducible rfl
            try simp only [Act.put, List.setIfInBounds_toArray, List.set_cons_zero, List.set_cons_succ]
            refine wpAnyH_take (i := 3) (oi := ⟨some 195, _, _, _, _, _⟩) (v := ?_) rfl (by kernel_rfl) (by kernel_rfl) (by kernel_rfl) (fun _ _ _ h => h) (Or.inl ⟨by rfl, ?_⟩) (by assumption) ?_
            rotate_left 1
            · intro w hSw
              go_split_ands
              go_simp
              try with_reducible rfl
            try simp only [Act.put, List.setIfInBounds_toArray, List.set_cons_zero, List.set_cons_succ]
            refine wpAnyH_take (i := 4) (oi := ⟨some 196, _, _, _, _, _⟩) (v := ?_) rfl (by kernel_rfl) (by kernel_rfl) (by kernel_rfl) (fun _ _ _ h => h) (Or.inl ⟨by rfl, ?_⟩) (by assumption) ?_
            rotate_left 1
            · intro w hSw
              go_split_ands
              go_simp
              try with_reducible rfl
            try simp only [Act.put, List.setIfInBounds_toArray, List.set_cons_zero, List.set_cons_succ]
            refine wpAnyH_take (i := 5) (oi := ⟨some 197, _, _, _, _, _⟩) (v := ?_) rfl (by kernel_rfl) (by kernel_rfl) (by kernel_rfl) (fun _ _ _ h => h) (Or.inl ⟨by rfl, ?_⟩) (by assumption) ?_
            rotate_left 1
            · intro w hSw
              go_split_ands
              go_simp
              try with_reducible rfl
            try simp only [Act.put, List.setIfInBounds_toArray, List.set_cons_zero, List.set_cons_succ]
            refine wpAnyH_take (i := 6) (oi := ⟨some 198, _, _, _, _, _⟩) (v := ?_) rfl (by kernel_rfl) (by kernel_rfl) (by kernel_rfl) (fun _ _ _ h => h) (Or.inl ⟨by rfl, ?_⟩) (by assumption) ?_
            rotate_left 1
            · intro w hSw
              go_split_ands
              go_simp
              try with_reducible rfl
            try simp only [Act.put, List.setIfInBounds_toArray, List.set_cons_zero, List.set_cons_succ]
            refine wpAnyH_take (i := 7) (oi := ⟨some 199, _, _, _, _, _⟩) (v := ?_) rfl (by kernel_rfl) (by kernel_rfl) (by kernel_rfl) (fun _ _ _ h => h) (Or.inl ⟨by rfl, ?_⟩) (by assumption) ?_
            rotate_left 1
            · intro w hSw
              go_split_ands
              go_simp
              try with_reducible rfl
            try simp only [Act.put, List.setIfInBounds_toArray, List.set_cons_zero, List.set_cons_succ]
            refine wpAnyH_ready (rs := [8]) (by kernel_rfl) (by simp) ?_
            refine AllReadyH.cons (o := ⟨some 200, _, _, _, _, _⟩) rfl (fun K hK => ?_) AllReadyH.nil
            go_simp
            go_at_call 53
            refine (Hst.out _).mono ?_
            rintro e' w' ⟨rfl, hbk⟩
            dsimp only
            refine hK.out _ _ ⟨cell_aft hbk hHeld.2.2 hHeld.1, hHeld.2.1.trans (hbk.mono hHeld.2.1.size), size_aft hbk hHeld.2.2⟩ (fun hHeld2 => ?_)
            clear hK K
            try simp only [Act.put, List.setIfInBounds_toArray, List.set_cons_zero, List.set_cons_succ]
            refine wpAnyH_take (i := 9) (oi := ⟨some 201, _, _, _, _, _⟩) (v := ?_) rfl (by kernel_rfl) (by kernel_rfl) (by kernel_rfl) (fun _ _ _ h => h) (Or.inl ⟨by rfl, ?_⟩) (by assumption) ?_
            rotate_left 1
            · intro w hSw
              go_split_ands
              go_simp
              try with_reducible rfl
            try simp only [Act.put, List.setIfInBounds_toArray, List.set_cons_zero, List.set_cons_succ]
            refine wpAnyH_take (i := 10) (oi := ⟨some 202, _, _, _, _, _⟩) (v := ?_) rfl (by kernel_rfl) (by kernel_rfl) (by kernel_rfl) (fun _ _ _ h => h) (Or.inl ⟨by rfl, ?_⟩) (by assumption) ?_
            rotate_left 1
            · intro w hSw
              go_split_ands
              go_simp
              try with_reducible rfl
            try simp only [Act.put, List.setIfInBounds_toArray, List.set_cons_zero, List.set_cons_succ]
            refine wpAnyH_take (i := 11) (oi := ⟨some 203, _, _, _, _, _⟩) (v := ?_) rfl (by kernel_rfl) (by kernel_rfl) (by kernel_rfl) (fun _ _ _ h => h) (Or.inl ⟨by rfl, ?_⟩) (by assumption) ?_
            rotate_left 1
            · intro w hSw
              go_split_ands
              go_simp
              try with_reducible rfl
            try simp only [Act.put, List.setIfInBounds_toArray, List.set_cons_zero, List.set_cons_succ]
            refine wpAnyH_take (i := 12) (oi := ⟨some 204, _, _, _, _, _⟩) (v := ?_) rfl (by kernel_rfl) (by kernel_rfl) (by kernel_rfl) (fun _ _ _ h => h) (Or.inl ⟨by rfl, ?_⟩) (by assumption) ?_
            rotate_left 1
            · intro w hSw
              go_split_ands
              go_simp
              try with_reducible rfl
            try simp only [Act.put, List.setIfInBounds_toArray, List.set_cons_zero, List.set_cons_succ]
            refine wpAnyH_take (i := 13) (oi := ⟨some 205, _, _, _, _, _⟩) (v := ?_) rfl (by kernel_rfl) (by kernel_rfl) (by kernel_rfl) (fun _ _ _ h => h) (Or.inl ⟨by rfl, ?_⟩) (by assumption) ?_
            rotate_left 1
            · intro w hSw
              go_split_ands
              go_simp
              try with_reducible rfl
            try simp only [Act.put, List.setIfInBounds_toArray, List.set_cons_zero, List.set_cons_succ]
            refine wpAnyH_take (i := 14) (oi := ⟨some 206, _, _, _, _, _⟩) (v := ?_) rfl (by kernel_rfl) (by kernel_rfl) (by kernel_rfl) (fun _ _ _ h => h) (Or.inl ⟨by rfl, ?_⟩) (by assumption) ?_
            rotate_left 1
            · intro w hSw
              go_split_ands
              go_simp
              try with_reducible rfl
            try simp only [Act.put, List.setIfInBounds_toArray, List.set_cons_zero, List.set_cons_succ]
            refine wpAnyH_take (i := 15) (oi := ⟨some 207, _, _, _, _, _⟩) (v := ?_) rfl (by kernel_rfl) (by kernel_rfl) (by kernel_rfl) (fun _ _ _ h => h) (Or.inl ⟨by rfl, ?_⟩) (by assumption) ?_
            rotate_left 1
            · intro w hSw
              go_split_ands
              go_simp
              try with_reducible rfl
            try simp only [Act.put, List.setIfInBounds_toArray, List.set_cons_zero, List.set_cons_succ]
            refine wpAnyH_take (i := 16) (oi := ⟨some 208, _, _, _, _, _⟩) (v := ?_) rfl (by kernel_rfl) (by kernel_rfl) (by kernel_rfl) (fun _ _ _ h => h) (Or.inl ⟨by rfl, ?_⟩) (by assumption) ?_
            rotate_left 1
            · intro w hSw
              go_split_ands
              go_simp
              try with_reducible rfl
            try simp only [Act.put, List.setIfInBounds_toArray, List.set_cons_zero, List.set_cons_succ]
            refine wpAnyH_take (i := 17) (oi := ⟨some 209, _, _, _, _, _⟩) (v := ?_) rfl (by kernel_rfl) (by kernel_rfl) (by kernel_rfl) (fun _ _ _ h => h) (Or.inl ⟨by rfl, ?_⟩) (by assumption) ?_
            rotate_left 1
            · intro w hSw
              go_split_ands
              go_simp
              try with_reducible rfl
            try simp only [Act.put, List.setIfInBounds_toArray, List.set_cons_zero, List.set_cons_succ]
            refine wpAnyH_take (i := 18) (oi := ⟨some 210, _, _, _, _, _⟩) (v := ?_) rfl (by kernel_rfl) (by kernel_rfl) (by kernel_rfl) (fun _ _ _ h => h) (Or.inl ⟨by rfl, ?_⟩) (by assumption) ?_
            rotate_left 1
            · intro w hSw
              go_split_ands
              go_simp
              try with_reducible rfl
            try simp only [Act.put, List.setIfInBounds_toArray, List.set_cons_zero, List.set_cons_succ]
            refine wpAnyH_ready (rs := [19]) (by kernel_rfl) (by simp) ?_
            refine AllReadyH.cons (o := ⟨some 211, _, _, _, _, _⟩) rfl (fun K hK => ?_) AllReadyH.nil
            go_simp
            go_at_call 48
            refine (Hbl.out _).mono ?_
            rintro e2 w2 ⟨rfl, hw2⟩
            subst w2
            dsimp only
            refine hK.out _ _ hHeld2 (fun _ => ?_)
            clear hK K
            try simp only [Act.put, List.setIfInBounds_toArray, List.set_cons_zero, List.set_cons_succ]
            refine wpAnyH_take (i := 20) (oi := ⟨some 212, _, _, _, _, _⟩) (v := ?_) rfl (by kernel_rfl) (by kernel_rfl) (by kernel_rfl) (fun _ _ _ h => h) (Or.inl ⟨by rfl, ?_⟩) (by assumption) ?_
            rotate_left 1
            · intro w hSw
              go_split_ands
              go_simp
              try with_reducible rfl
            try simp only [Act.put, List.setIfInBounds_toArray, List.set_cons_zero, List.set_cons_succ]
            refine wpAnyH_take (i := 21) (oi := ⟨some 213, _, _, _, _, _⟩) (v := ?_) rfl (by kernel_rfl) (by kernel_rfl) (by kernel_rfl) (fun _ _ _ h => h) (Or.inl ⟨by rfl, ?_⟩) (by assumption) ?_
            rotate_left 1
            · intro w hSw
              go_split_ands
              go_simp
              try with_reducible rfl
            try simp only [Act.put, List.setIfInBounds_toArray, List.set_cons_zero, List.set_cons_succ]
            refine wpAnyH_take (i := 22) (oi := ⟨some 214, _, _, _, _, _⟩) (v := ?_) rfl (by kernel_rfl) (by kernel_rfl) (by kernel_rfl) (fun _ _ _ h => h) (Or.inl ⟨by rfl, ?_⟩) (by assumption) ?_
            rotate_left 1
            · intro w hSw
              go_split_ands
              go_simp
              try with_reducible rfl
            try simp only [Act.put, List.setIfInBounds_toArray, List.set_cons_zero, List.set_cons_succ]
            refine wpAnyH_take (i := 23) (oi := ⟨some 215, _, _, _, _, _⟩) (v := ?_) rfl (by kernel_rfl) (by kernel_rfl) (by kernel_rfl) (fun _ _ _ h => h) (Or.inl ⟨by rfl, ?_⟩) (by assumption) ?_
            rotate_left 1
            · intro w hSw
              go_split_ands
              go_simp
              try with_reducible rfl
            try simp only [Act.put, List.setIfInBounds_toArray, List.set_cons_zero, List.set_cons_succ]
            refine wpAnyH_take (i := 24) (oi := ⟨some 216, _, _, _, _, _⟩) (v := ?_) rfl (by kernel_rfl) (by kernel_rfl) (by kernel_rfl) (fun _ _ _ h => h) (Or.inl ⟨by rfl, ?_⟩) (by assumption) ?_
            rotate_left 1
            · intro w hSw
              go_split_ands
              go_simp
              try with_reducible rfl
            try simp only [Act.put, List.setIfInBounds_toArray, List.set_cons_zero, List.set_cons_succ]
            refine wpAnyH_take (i := 25) (oi := ⟨some 217, _, _, _, _, _⟩) (v := ?_) rfl (by kernel_rfl) (by kernel_rfl) (by kernel_rfl) (fun _ _ _ h => h) (Or.inl ⟨by rfl, ?_⟩) (by assumption) ?_
            rotate_left 1
            · intro w hSw
              go_split_ands
              go_simp
              try with_reducible rfl
            try simp only [Act.put, List.setIfInBounds_toArray, List.set_cons_zero, List.set_cons_succ]
            refine wpAnyH_take (i := 26) (oi := ⟨some 218, _, _, _, _, _⟩) (v := ?_) rfl (by kernel_rfl) (by kernel_rfl) (by kernel_rfl) (fun _ _ _ h => h) (Or.inl ⟨by rfl, ?_⟩) (by assumption) ?_
            rotate_left 1
            · intro w hSw
              go_split_ands
              go_simp
              try with_reducible rfl
            try simp only [Act.put, List.setIfInBounds_toArray, List.set_cons_zero, List.set_cons_succ]
            refine wpAnyH_take (i := 27) (oi := ⟨some 219, _, _, _, _, _⟩) (v := ?_) rfl (by kernel_rfl) (by kernel_rfl) (by kernel_rfl) (fun _ _ _ h => h) (Or.inl ⟨by rfl, ?_⟩) (by assumption) ?_
            rotate_left 1
            · intro w hSw
              go_split_ands
              go_simp
              try with_reducible rfl
            try simp only [Act.put, List.setIfInBounds_toArray, List.set_cons_zero, List.set_cons_succ]
            refine wpAnyH_take (i := 28) (oi := ⟨some 220, _, _, _, _, _⟩) (v := ?_) rfl (by kernel_rfl) (by kernel_rfl) (by kernel_rfl) (fun _ _ _ h => h) (Or.inl ⟨by rfl, ?_⟩) (by assumption) ?_
            rotate_left 1
            · intro w hSw
              go_split_ands
              go_simp
              try with_reducible rfl
            try simp only [Act.put, List.setIfInBounds_toArray, List.set_cons_zero, List.set_cons_succ]
            refine wpAnyH_take (i := 29) (oi := ⟨some 221, _, _, _, _, _⟩) (v := ?_) rfl (by kernel_rfl) (by kernel_rfl) (by kernel_rfl) (fun _ _ _ h => h) (Or.inl ⟨by rfl, ?_⟩) (by assumption) ?_
            rotate_left 1
            · intro w hSw
              go_split_ands
              go_simp
              try with_reducible rfl
            try simp only [Act.put, List.setIfInBounds_toArray, List.set_cons_zero, List.set_cons_succ]
            refine wpAnyH_take (i := 30) (oi := ⟨some 222, _, _, _, _, _⟩) (v := ?_) rfl (by kernel_rfl) (by kernel_rfl) (by kernel_rfl) (fun _ _ _ h => h) (Or.inl ⟨by rfl, ?_⟩) (by assumption) ?_
            rotate_left 1
            · intro w hSw
              go_split_ands
              go_simp
              try with_reducible rfl
            try simp only [Act.put, List.setIfInBounds_toArray, List.set_cons_zero, List.set_cons_succ]
            refine wpAnyH_take (i := 31) (oi := ⟨some 223, _, _, _, _, _⟩) (v := ?_) rfl (by kernel_rfl) (by kernel_rfl) (by kernel_rfl) (fun _ _ _ h => h) (Or.inl ⟨by rfl, ?_⟩) (by assumption) ?_
            rotate_left 1
            · intro w hSw
              go_split_ands
              go_simp
              try with_reducible rfl
            try simp only [Act.put, List.setIfInBounds_toArray, List.set_cons_zero, List.set_cons_succ]
            refine wpAnyH_take (i := 32) (oi := ⟨some 224, _, _, _, _, _⟩) (v := ?_) rfl (by kernel_rfl) (by kernel_rfl) (by kernel_rfl) (fun _ _ _ h => h) (Or.inl ⟨by rfl, ?_⟩) (by assumption) ?_
            rotate_left 1
            · intro w hSw
              go_split_ands
              go_simp
              try with_reducible rfl
            try simp only [Act.put, List.setIfInBounds_toArray, List.set_cons_zero, List.set_cons_succ]
            refine wpAnyH_done (by kernel_rfl) ?_ _
            refine NoPanic.normal ?_
            have H2 := hid (H.out.keep (((Below.refl _ _).drew).trans hbk))
            have HB2 := hid (H.out.bkeep (Below.refl base _) (((Below.refl _ _).drew).trans hbk))
            have d13 : w'.cell? ⟨R, 13, none⟩ = some (.int .i64 kk) := H2.out.cell 13 (by rw [← Hkk.out]; rfl)
            go_wp2_with fail
            refine (htext.out (kk == 1) _ (Hrf.out.keep (((Below.refl _ _).drew).trans hbk))).mono ?_
            rintro e w3 ⟨rfl, ⟨VO1, VT1, VA1, B1, hrf1⟩, hb1⟩
            have HP := hid hrf1
            have HB := hid hb1
            clear hrf1 hb1
            go_wp2_with fail
            refine (Hlow.out _).mono ?_
            rintro e4 w4 ⟨t, rfl, ht, hbl⟩
            have H4 := hid (HP.out.keep hbl)
            have HB4 := hid (HB2.out.trans (HP.out.bkeep HB.out hbl))
            have k2 := H4.out.cell 2 rfl
            have k4 := H4.out.cell 4 rfl
            have k5 := H4.out.cell 5 rfl
            have k6 := H4.out.cell 6 rfl
            have k7 := H4.out.cell 7 rfl
            have k8 := H4.out.cell 8 rfl
            have g2 := H4.out.fz 2
            have g4 := H4.out.fz 4
            have g5 := H4.out.fz 5
            have g6 := H4.out.fz 6
            have g7 := H4.out.fz 7
            have g8 := H4.out.fz 8
            go_wp2
            go_ret
            rw [Hq.out]
            exact ⟨⟨_, rfl, hid (by first | rfl | (simp only; omega))⟩, Rf.rgs (m := { mText m (kk == 1) with st := 3, tag := { tk0 with k := 2, n := low (((s.data.toList.drop i).drop 2).take nm.size) } }) (H4.out.tagS 2 t) (by rw [← ht.out]; rfl) rfl rfl rfl, H4.out.btagS HB4.out 2 t⟩
          · have h62b : (d == 62) = false := beq_eq_false_iff_ne.2 h62
            have e62 := bOf_no d d0 d1 62 62 rfl h62
            have Hq : Hid (p = ({ m with text := m.text ++ [bOf n] }, 1)) := hid (by rw [Hp.out, if_neg (by rw [Hcond.out, Hr.out]; unfold endC; rw [hb']; simp [e47, e62])])
            clear e47 e62
            go_enter Try.func31, Try.ntmps31
            go_wp2_with fail
            refine wp_region_noPanic ?_
            refine wp_region_held_drew (S := fun w' => w'.cell? ⟨R, 12, none⟩ = some (.string nm) ∧ Below w.heap.size w w' ∧ R < w'.heap.size) (by kernel_rfl) ⟨c12, (Below.refl _ _).drew, hRlt⟩ (fun hHeld => ?_)
            refine wpAnyH_take (i := 0) (oi := ⟨some 192, _, _, _, _, _⟩) (v := ?_) rfl (by kernel_rfl) (by kernel_rfl) (by kernel_rfl) (fun _ _ _ h => h) (Or.inl ⟨by rfl, ?_⟩) (by assumption) ?_
            rotate_left 1
            · intro w hSw
              go_split_ands
              go_simp
              try with_reducible rfl
            try simp only [Act.put, List.setIfInBounds_toArray, List.set_cons_zero, List.set_cons_succ]
            refine wpAnyH_take (i := 1) (oi := ⟨some 193, _, _, _, _, _⟩) (v := ?_) rfl (by kernel_rfl) (by kernel_rfl) (by kernel_rfl) (fun _ _ _ h => h) (Or.inl ⟨by rfl, ?_⟩) (by assumption) ?_
            rotate_left 1
            · intro w hSw
              go_split_ands
              go_simp
              try with_reducible rfl
            try simp only [Act.put, List.setIfInBounds_toArray, List.set_cons_zero, List.set_cons_succ]
            refine wpAnyH_take (i := 2) (oi := ⟨some 194, _, _, _, _, _⟩) (v := ?_) rfl (by kernel_rfl) (by kernel_rfl) (by kernel_rfl) (fun _ _ _ h => h) (Or.inl ⟨by rfl, ?_⟩) (by assumption) ?_
            rotate_left 1
            · intro w hSw
              go_split_ands
              go_simp
              try with_reducible rfl
            try simp only [Act.put, List.setIfInBounds_toArray, List.set_cons_zero, List.set_cons_succ]
            refine wpAnyH_take (i := 3) (oi := ⟨some 195, _, _, _, _, _⟩) (v := ?_) rfl (by kernel_rfl) (by kernel_rfl) (by kernel_rfl) (fun _ _ _ h => h) (Or.inl ⟨by rfl, ?_⟩) (by assumption) ?_
            rotate_left 1
            · intro w hSw
              go_split_ands
              go_simp
              try with_reducible rfl
            try simp only [Act.put, List.setIfInBounds_toArray, List.set_cons_zero, List.set_cons_succ]
            refine wpAnyH_take (i := 4) (oi := ⟨some 196, _, _, _, _, _⟩) (v := ?_) rfl (by kernel_rfl) (by kernel_rfl) (by kernel_rfl) (fun _ _ _ h => h) (Or.inl ⟨by rfl, ?_⟩) (by assumption) ?_
            rotate_left 1
            · intro w hSw
              go_split_ands
              go_simp
              try with_reducible rfl
            try simp only [Act.put, List.setIfInBounds_toArray, List.set_cons_zero, List.set_cons_succ]
            refine wpAnyH_take (i := 5) (oi := ⟨some 197, _, _, _, _, _⟩) (v := ?_) rfl (by kernel_rfl) (by kernel_rfl) (by kernel_rfl) (fun _ _ _ h => h) (Or.inl ⟨by rfl, ?_⟩) (by assumption) ?_
            rotate_left 1
            · intro w hSw
              go_split_ands
              go_simp
              try with_reducible rfl
            try simp only [Act.put, List.setIfInBounds_toArray, List.set_cons_zero, List.set_cons_succ]
            refine wpAnyH_take (i := 6) (oi := ⟨some 198, _, _, _, _, _⟩) (v := ?_) rfl (by kernel_rfl) (by kernel_rfl) (by kernel_rfl) (fun _ _ _ h => h) (Or.inl ⟨by rfl, ?_⟩) (by assumption) ?_
            rotate_left 1
            · intro w hSw
              go_split_ands
              go_simp
              try with_reducible rfl
            try simp only [Act.put, List.setIfInBounds_toArray, List.set_cons_zero, List.set_cons_succ]
            refine wpAnyH_take (i := 7) (oi := ⟨some 199, _, _, _, _, _⟩) (v := ?_) rfl (by kernel_rfl) (by kernel_rfl) (by kernel_rfl) (fun _ _ _ h => h) (Or.inl ⟨by rfl, ?_⟩) (by assumption) ?_
            rotate_left 1
            · intro w hSw
              go_split_ands
              go_simp
              try with_reducible rfl
            try simp only [Act.put, List.setIfInBounds_toArray, List.set_cons_zero, List.set_cons_succ]
            refine wpAnyH_ready (rs := [8]) (by kernel_rfl) (by simp) ?_
            refine AllReadyH.cons (o := ⟨some 200, _, _, _, _, _⟩) rfl (fun K hK => ?_) AllReadyH.nil
            go_simp
            go_at_call 53
            refine (Hst.out _).mono ?_
            rintro e' w' ⟨rfl, hbk⟩
            dsimp only
            refine hK.out _ _ ⟨cell_aft hbk hHeld.2.2 hHeld.1, hHeld.2.1.trans (hbk.mono hHeld.2.1.size), size_aft hbk hHeld.2.2⟩ (fun hHeld2 => ?_)
            clear hK K
            try simp only [Act.put, List.setIfInBounds_toArray, List.set_cons_zero, List.set_cons_succ]
            refine wpAnyH_take (i := 9) (oi := ⟨some 201, _, _, _, _, _⟩) (v := ?_) rfl (by kernel_rfl) (by kernel_rfl) (by kernel_rfl) (fun _ _ _ h => h) (Or.inl ⟨by rfl, ?_⟩) (by assumption) ?_
            rotate_left 1
            · intro w hSw
              go_split_ands
              go_simp
              try with_reducible rfl
            try simp only [Act.put, List.setIfInBounds_toArray, List.set_cons_zero, List.set_cons_succ]
            refine wpAnyH_take (i := 10) (oi := ⟨some 202, _, _, _, _, _⟩) (v := ?_) rfl (by kernel_rfl) (by kernel_rfl) (by kernel_rfl) (fun _ _ _ h => h) (Or.inl ⟨by rfl, ?_⟩) (by assumption) ?_
            rotate_left 1
            · intro w hSw
              go_split_ands
              go_simp
              try with_reducible rfl
            try simp only [Act.put, List.setIfInBounds_toArray, List.set_cons_zero, List.set_cons_succ]
            refine wpAnyH_take (i := 11) (oi := ⟨some 203, _, _, _, _, _⟩) (v := ?_) rfl (by kernel_rfl) (by kernel_rfl) (by kernel_rfl) (fun _ _ _ h => h) (Or.inl ⟨by rfl, ?_⟩) (by assumption) ?_
            rotate_left 1
            · intro w hSw
              go_split_ands
              go_simp
              try with_reducible rfl
            try simp only [Act.put, List.setIfInBounds_toArray, List.set_cons_zero, List.set_cons_succ]
            refine wpAnyH_take (i := 12) (oi := ⟨some 204, _, _, _, _, _⟩) (v := ?_) rfl (by kernel_rfl) (by kernel_rfl) (by kernel_rfl) (fun _ _ _ h => h) (Or.inl ⟨by rfl, ?_⟩) (by assumption) ?_
            rotate_left 1
            · intro w hSw
              go_split_ands
              go_simp
              try with_reducible rfl
            try simp only [Act.put, List.setIfInBounds_toArray, List.set_cons_zero, List.set_cons_succ]
            refine wpAnyH_take (i := 13) (oi := ⟨some 205, _, _, _, _, _⟩) (v := ?_) rfl (by kernel_rfl) (by kernel_rfl) (by kernel_rfl) (fun _ _ _ h => h) (Or.inl ⟨by rfl, ?_⟩) (by assumption) ?_
            rotate_left 1
            · intro w hSw
              go_split_ands
              go_simp
              try with_reducible rfl
            try simp only [Act.put, List.setIfInBounds_toArray, List.set_cons_zero, List.set_cons_succ]
            refine wpAnyH_take (i := 14) (oi := ⟨some 206, _, _, _, _, _⟩) (v := ?_) rfl (by kernel_rfl) (by kernel_rfl) (by kernel_rfl) (fun _ _ _ h => h) (Or.inl ⟨by rfl, ?_⟩) (by assumption) ?_
            rotate_left 1
            · intro w hSw
              go_split_ands
              go_simp
              try with_reducible rfl
            try simp only [Act.put, List.setIfInBounds_toArray, List.set_cons_zero, List.set_cons_succ]
            refine wpAnyH_take (i := 15) (oi := ⟨some 207, _, _, _, _, _⟩) (v := ?_) rfl (by kernel_rfl) (by kernel_rfl) (by kernel_rfl) (fun _ _ _ h => h) (Or.inl ⟨by rfl, ?_⟩) (by assumption) ?_
            rotate_left 1
            · intro w hSw
              go_split_ands
              go_simp
              try with_reducible rfl
            try simp only [Act.put, List.setIfInBounds_toArray, List.set_cons_zero, List.set_cons_succ]
            refine wpAnyH_take (i := 16) (oi := ⟨some 208, _, _, _, _, _⟩) (v := ?_) rfl (by kernel_rfl) (by kernel_rfl) (by kernel_rfl) (fun _ _ _ h => h) (Or.inl ⟨by rfl, ?_⟩) (by assumption) ?_
            rotate_left 1
            · intro w hSw
              go_split_ands
              go_simp
              try with_reducible rfl
            try simp only [Act.put, List.setIfInBounds_toArray, List.set_cons_zero, List.set_cons_succ]
            refine wpAnyH_take (i := 17) (oi := ⟨some 209, _, _, _, _, _⟩) (v := ?_) rfl (by kernel_rfl) (by kernel_rfl) (by kernel_rfl) (fun _ _ _ h => h) (Or.inl ⟨by rfl, ?_⟩) (by assumption) ?_
            rotate_left 1
            · intro w hSw
              go_split_ands
              go_simp
              try with_reducible rfl
            try simp only [Act.put, List.setIfInBounds_toArray, List.set_cons_zero, List.set_cons_succ]
            refine wpAnyH_take (i := 18) (oi := ⟨some 210, _, _, _, _, _⟩) (v := ?_) rfl (by kernel_rfl) (by kernel_rfl) (by kernel_rfl) (fun _ _ _ h => h) (Or.inl ⟨by rfl, ?_⟩) (by assumption) ?_
            rotate_left 1
            · intro w hSw
              go_split_ands
              go_simp
              try with_reducible rfl
            try simp only [Act.put, List.setIfInBounds_toArray, List.set_cons_zero, List.set_cons_succ]
            refine wpAnyH_ready (rs := [19]) (by kernel_rfl) (by simp) ?_
            refine AllReadyH.cons (o := ⟨some 211, _, _, _, _, _⟩) rfl (fun K hK => ?_) AllReadyH.nil
            go_simp
            go_at_call 48
            refine (Hbl.out _).mono ?_
            rintro e2 w2 ⟨rfl, hw2⟩
            subst w2
            dsimp only
            refine hK.out _ _ hHeld2 (fun _ => ?_)
            clear hK K
            try simp only [Act.put, List.setIfInBounds_toArray, List.set_cons_zero, List.set_cons_succ]
            refine wpAnyH_take (i := 20) (oi := ⟨some 212, _, _, _, _, _⟩) (v := ?_) rfl (by kernel_rfl) (by kernel_rfl) (by kernel_rfl) (fun _ _ _ h => h) (Or.inl ⟨by rfl, ?_⟩) (by assumption) ?_
            rotate_left 1
            · intro w hSw
              go_split_ands
              go_simp
              try with_reducible rfl
            try simp only [Act.put, List.setIfInBounds_toArray, List.set_cons_zero, List.set_cons_succ]
            refine wpAnyH_take (i := 21) (oi := ⟨some 213, _, _, _, _, _⟩) (v := ?_) rfl (by kernel_rfl) (by kernel_rfl) (by kernel_rfl) (fun _ _ _ h => h) (Or.inl ⟨by rfl, ?_⟩) (by assumption) ?_
            rotate_left 1
            · intro w hSw
              go_split_ands
              go_simp
              try with_reducible rfl
            try simp only [Act.put, List.setIfInBounds_toArray, List.set_cons_zero, List.set_cons_succ]
            refine wpAnyH_take (i := 22) (oi := ⟨some 214, _, _, _, _, _⟩) (v := ?_) rfl (by kernel_rfl) (by kernel_rfl) (by kernel_rfl) (fun _ _ _ h => h) (Or.inl ⟨by rfl, ?_⟩) (by assumption) ?_
            rotate_left 1
            · intro w hSw
              go_split_ands
              go_simp
              try with_reducible rfl
            try simp only [Act.put, List.setIfInBounds_toArray, List.set_cons_zero, List.set_cons_succ]
            refine wpAnyH_take (i := 23) (oi := ⟨some 215, _, _, _, _, _⟩) (v := ?_) rfl (by kernel_rfl) (by kernel_rfl) (by kernel_rfl) (fun _ _ _ h => h) (Or.inl ⟨by rfl, ?_⟩) (by assumption) ?_
            rotate_left 1
            · intro w hSw
              go_split_ands
              go_simp
              try with_reducible rfl
            try simp only [Act.put, List.setIfInBounds_toArray, List.set_cons_zero, List.set_cons_succ]
            refine wpAnyH_take (i := 24) (oi := ⟨some 216, _, _, _, _, _⟩) (v := ?_) rfl (by kernel_rfl) (by kernel_rfl) (by kernel_rfl) (fun _ _ _ h => h) (Or.inl ⟨by rfl, ?_⟩) (by assumption) ?_
            rotate_left 1
            · intro w hSw
              go_split_ands
              go_simp
              try with_reducible rfl
            try simp only [Act.put, List.setIfInBounds_toArray, List.set_cons_zero, List.set_cons_succ]
            refine wpAnyH_take (i := 25) (oi := ⟨some 217, _, _, _, _, _⟩) (v := ?_) rfl (by kernel_rfl) (by kernel_rfl) (by kernel_rfl) (fun _ _ _ h => h) (Or.inl ⟨by rfl, ?_⟩) (by assumption) ?_
            rotate_left 1
            · intro w hSw
              go_split_ands
              go_simp
              try with_reducible rfl
            try simp only [Act.put, List.setIfInBounds_toArray, List.set_cons_zero, List.set_cons_succ]
            refine wpAnyH_take (i := 26) (oi := ⟨some 218, _, _, _, _, _⟩) (v := ?_) rfl (by kernel_rfl) (by kernel_rfl) (by kernel_rfl) (fun _ _ _ h => h) (Or.inl ⟨by rfl, ?_⟩) (by assumption) ?_
            rotate_left 1
            · intro w hSw
              go_split_ands
              go_simp
              try with_reducible rfl
            try simp only [Act.put, List.setIfInBounds_toArray, List.set_cons_zero, List.set_cons_succ]
            refine wpAnyH_take (i := 27) (oi := ⟨some 219, _, _, _, _, _⟩) (v := ?_) rfl (by kernel_rfl) (by kernel_rfl) (by kernel_rfl) (fun _ _ _ h => h) (Or.inl ⟨by rfl, ?_⟩) (by assumption) ?_
            rotate_left 1
            · intro w hSw
              go_split_ands
              go_simp
              try with_reducible rfl
            try simp only [Act.put, List.setIfInBounds_toArray, List.set_cons_zero, List.set_cons_succ]
            refine wpAnyH_take (i := 28) (oi := ⟨some 220, _, _, _, _, _⟩) (v := ?_) rfl (by kernel_rfl) (by kernel_rfl) (by kernel_rfl) (fun _ _ _ h => h) (Or.inl ⟨by rfl, ?_⟩) (by assumption) ?_
            rotate_left 1
            · intro w hSw
              go_split_ands
              go_simp
              try with_reducible rfl
            try simp only [Act.put, List.setIfInBounds_toArray, List.set_cons_zero, List.set_cons_succ]
            refine wpAnyH_take (i := 29) (oi := ⟨some 221, _, _, _, _, _⟩) (v := ?_) rfl (by kernel_rfl) (by kernel_rfl) (by kernel_rfl) (fun _ _ _ h => h) (Or.inl ⟨by rfl, ?_⟩) (by assumption) ?_
            rotate_left 1
            · intro w hSw
              go_split_ands
              go_simp
              try with_reducible rfl
            try simp only [Act.put, List.setIfInBounds_toArray, List.set_cons_zero, List.set_cons_succ]
            refine wpAnyH_take (i := 30) (oi := ⟨some 222, _, _, _, _, _⟩) (v := ?_) rfl (by kernel_rfl) (by kernel_rfl) (by kernel_rfl) (fun _ _ _ h => h) (Or.inl ⟨by rfl, ?_⟩) (by assumption) ?_
            rotate_left 1
            · intro w hSw
              go_split_ands
              go_simp
              try with_reducible rfl
            try simp only [Act.put, List.setIfInBounds_toArray, List.set_cons_zero, List.set_cons_succ]
            refine wpAnyH_take (i := 31) (oi := ⟨some 223, _, _, _, _, _⟩) (v := ?_) rfl (by kernel_rfl) (by kernel_rfl) (by kernel_rfl) (fun _ _ _ h => h) (Or.inl ⟨by rfl, ?_⟩) (by assumption) ?_
            rotate_left 1
            · intro w hSw
              go_split_ands
              go_simp
              try with_reducible rfl
            try simp only [Act.put, List.setIfInBounds_toArray, List.set_cons_zero, List.set_cons_succ]
            refine wpAnyH_take (i := 32) (oi := ⟨some 224, _, _, _, _, _⟩) (v := ?_) rfl (by kernel_rfl) (by kernel_rfl) (by kernel_rfl) (fun _ _ _ h => h) (Or.inl ⟨by rfl, ?_⟩) (by assumption) ?_
            rotate_left 1
            · intro w hSw
              go_split_ands
              go_simp
              try with_reducible rfl
            try simp only [Act.put, List.setIfInBounds_toArray, List.set_cons_zero, List.set_cons_succ]
            refine wpAnyH_done (by kernel_rfl) ?_ _
            refine NoPanic.normal ?_
            have H2 := hid (H.out.keep (((Below.refl _ _).drew).trans hbk))
            have HB2 := hid (H.out.bkeep (Below.refl base _) (((Below.refl _ _).drew).trans hbk))
            have d3 : w'.cell? ⟨R, 3, none⟩ = some (.slice At tn ct) := H2.out.cell 3 rfl
            go_wp2_with (at_builtin; refine wpl_oct rfl _ _ rfl base _ m.text n _ H2.out.text rfl rfl h0 h1 (by have := Htl.out; omega) H2.out.size ?_; intro v' w3 hO3 hg3; obtain ⟨A3, c3', hv3⟩ := OwnB.shapeV hO3 (n := tn + 1) (by rw [List.length_append, Htn.out]; rfl); subst hv3; have H3 := hid ((H2.out.alloc (.cells #[.int .u8 n] 5)).growT hg3 hO3); have HB3 := hid (below_grown (H2.out.bkeep (Below.refl base _) (alloc_below w' (.cells #[.int .u8 n] 5))) (H2.out.alloc (.cells #[.int .u8 n] 5)).size (OwnB.lo_ H2.out.text) hg3); have g3 := H3.out.fz 3; have q3 : w3.cell? ⟨R, 3, none⟩ = some (.slice At tn ct) := H3.out.cell 3 rfl; clear hO3 hg3)
            go_ret
            rw [Hq.out]
            exact ⟨⟨_, rfl, hid rfl⟩, Rf.rgs (m := { m with text := m.text ++ [bOf n] }) (H3.out.set 3 (.slice A3 (tn + 1) c3')) rfl rfl rfl rfl, HB2.out.trans (H3.out.bset HB3.out 3 _)⟩
    · have hqi1 : ¬ (q : Int) < (s.size : Int) := by omega
      have hqi2 : decide ((q : Int) < (s.size : Int)) = false := decide_eq_false hqi1
      have hqi3 : decide (q < s.size) = false := decide_eq_false hlq
      have Hbl := hid (Hbl0.out 0 (by omega) (by omega))
      have Hq : Hid (p = ({ m with text := m.text ++ [bOf n] }, 1)) := hid (by rw [Hp.out, if_neg (by rw [Hcond.out]; unfold endsB; rw [Hget.out, List.getElem?_eq_none (by rw [len_data]; omega)]; simp)])
      go_enter Try.func31, Try.ntmps31
      go_wp2_with fail
      refine wp_region_noPanic ?_
      refine wp_region_held_drew (S := fun w' => w'.cell? ⟨R, 12, none⟩ = some (.string nm) ∧ Below w.heap.size w w' ∧ R < w'.heap.size) (by kernel_rfl) ⟨c12, (Below.refl _ _).drew, hRlt⟩ (fun hHeld => ?_)
      refine wpAnyH_take (i := 0) (oi := ⟨some 192, _, _, _, _, _⟩) (v := ?_) rfl (by kernel_rfl) (by kernel_rfl) (by kernel_rfl) (fun _ _ _ h => h) (Or.inl ⟨by rfl, ?_⟩) (by assumption) ?_
      rotate_left 1
      · intro w hSw
        go_split_ands
        go_simp
        try with_reducible rfl
      try simp only [Act.put, List.setIfInBounds_toArray, List.set_cons_zero, List.set_cons_succ]
      refine wpAnyH_take (i := 1) (oi := ⟨some 193, _, _, _, _, _⟩) (v := ?_) rfl (by kernel_rfl) (by kernel_rfl) (by kernel_rfl) (fun _ _ _ h => h) (Or.inl ⟨by rfl, ?_⟩) (by assumption) ?_
      rotate_left 1
      · intro w hSw
        go_split_ands
        go_simp
        try with_reducible rfl
      try simp only [Act.put, List.setIfInBounds_toArray, List.set_cons_zero, List.set_cons_succ]
      refine wpAnyH_take (i := 2) (oi := ⟨some 194, _, _, _, _, _⟩) (v := ?_) rfl (by kernel_rfl) (by kernel_rfl) (by kernel_rfl) (fun _ _ _ h => h) (Or.inl ⟨by rfl, ?_⟩) (by assumption) ?_
      rotate_left 1
      · intro w hSw
        go_split_ands
        go_simp
        try with_reducible rfl
      try simp only [Act.put, List.setIfInBounds_toArray, List.set_cons_zero, List.set_cons_succ]
      refine wpAnyH_take (i := 3) (oi := ⟨some 195, _, _, _, _, _⟩) (v := ?_) rfl (by kernel_rfl) (by kernel_rfl) (by kernel_rfl) (fun _ _ _ h => h) (Or.inl ⟨by rfl, ?_⟩) (by assumption) ?_
      rotate_left 1
      · intro w hSw
        go_split_ands
        go_simp
        try with_reducible rfl
      try simp only [Act.put, List.setIfInBounds_toArray, List.set_cons_zero, List.set_cons_succ]
      refine wpAnyH_take (i := 4) (oi := ⟨some 196, _, _, _, _, _⟩) (v := ?_) rfl (by kernel_rfl) (by kernel_rfl) (by kernel_rfl) (fun _ _ _ h => h) (Or.inl ⟨by rfl, ?_⟩) (by assumption) ?_
      rotate_left 1
      · intro w hSw
        go_split_ands
        go_simp
        try with_reducible rfl
      try simp only [Act.put, List.setIfInBounds_toArray, List.set_cons_zero, List.set_cons_succ]
      refine wpAnyH_take (i := 5) (oi := ⟨some 197, _, _, _, _, _⟩) (v := ?_) rfl (by kernel_rfl) (by kernel_rfl) (by kernel_rfl) (fun _ _ _ h => h) (Or.inl ⟨by rfl, ?_⟩) (by assumption) ?_
      rotate_left 1
      · intro w hSw
        go_split_ands
        go_simp
        try with_reducible rfl
      try simp only [Act.put, List.setIfInBounds_toArray, List.set_cons_zero, List.set_cons_succ]
      refine wpAnyH_take (i := 6) (oi := ⟨some 198, _, _, _, _, _⟩) (v := ?_) rfl (by kernel_rfl) (by kernel_rfl) (by kernel_rfl) (fun _ _ _ h => h) (Or.inl ⟨by rfl, ?_⟩) (by assumption) ?_
      rotate_left 1
      · intro w hSw
        go_split_ands
        go_simp
        try with_reducible rfl
      try simp only [Act.put, List.setIfInBounds_toArray, List.set_cons_zero, List.set_cons_succ]
      refine wpAnyH_take (i := 7) (oi := ⟨some 199, _, _, _, _, _⟩) (v := ?_) rfl (by kernel_rfl) (by kernel_rfl) (by kernel_rfl) (fun _ _ _ h => h) (Or.inl ⟨by rfl, ?_⟩) (by assumption) ?_
      rotate_left 1
      · intro w hSw
        go_split_ands
        go_simp
        try with_reducible rfl
      try simp only [Act.put, List.setIfInBounds_toArray, List.set_cons_zero, List.set_cons_succ]
      refine wpAnyH_ready (rs := [8]) (by kernel_rfl) (by simp) ?_
      refine AllReadyH.cons (o := ⟨some 200, _, _, _, _, _⟩) rfl (fun K hK => ?_) AllReadyH.nil
      go_simp
      go_at_call 53
      refine (Hst.out _).mono ?_
      rintro e' w' ⟨rfl, hbk⟩
      dsimp only
      refine hK.out _ _ ⟨cell_aft hbk hHeld.2.2 hHeld.1, hHeld.2.1.trans (hbk.mono hHeld.2.1.size), size_aft hbk hHeld.2.2⟩ (fun hHeld2 => ?_)
      clear hK K
      try simp only [Act.put, List.setIfInBounds_toArray, List.set_cons_zero, List.set_cons_succ]
      refine wpAnyH_take (i := 9) (oi := ⟨some 201, _, _, _, _, _⟩) (v := ?_) rfl (by kernel_rfl) (by kernel_rfl) (by kernel_rfl) (fun _ _ _ h => h) (Or.inl ⟨by rfl, ?_⟩) (by assumption) ?_
      rotate_left 1
      · intro w hSw
        go_split_ands
        go_simp
        try with_reducible rfl
      try simp only [Act.put, List.setIfInBounds_toArray, List.set_cons_zero, List.set_cons_succ]
      refine wpAnyH_take (i := 10) (oi := ⟨some 202, _, _, _, _, _⟩) (v := ?_) rfl (by kernel_rfl) (by kernel_rfl) (by kernel_rfl) (fun _ _ _ h => h) (Or.inl ⟨by rfl, ?_⟩) (by assumption) ?_
      rotate_left 1
      · intro w hSw
        go_split_ands
        go_simp
        try with_reducible rfl
      try simp only [Act.put, List.setIfInBounds_toArray, List.set_cons_zero, List.set_cons_succ]
      refine wpAnyH_take (i := 11) (oi := ⟨some 203, _, _, _, _, _⟩) (v := ?_) rfl (by kernel_rfl) (by kernel_rfl) (by kernel_rfl) (fun _ _ _ h => h) (Or.inl ⟨by rfl, ?_⟩) (by assumption) ?_
      rotate_left 1
      · intro w hSw
        go_split_ands
        go_simp
        try with_reducible rfl
      try simp only [Act.put, List.setIfInBounds_toArray, List.set_cons_zero, List.set_cons_succ]
      refine wpAnyH_take (i := 12) (oi := ⟨some 204, _, _, _, _, _⟩) (v := ?_) rfl (by kernel_rfl) (by kernel_rfl) (by kernel_rfl) (fun _ _ _ h => h) (Or.inl ⟨by rfl, ?_⟩) (by assumption) ?_
      rotate_left 1
      · intro w hSw
        go_split_ands
        go_simp
        try with_reducible rfl
      try simp only [Act.put, List.setIfInBounds_toArray, List.set_cons_zero, List.set_cons_succ]
      refine wpAnyH_take (i := 13) (oi := ⟨some 205, _, _, _, _, _⟩) (v := ?_) rfl (by kernel_rfl) (by kernel_rfl) (by kernel_rfl) (fun _ _ _ h => h) (Or.inl ⟨by rfl, ?_⟩) (by assumption) ?_
      rotate_left 1
      · intro w hSw
        go_split_ands
        go_simp
        try with_reducible rfl
      try simp only [Act.put, List.setIfInBounds_toArray, List.set_cons_zero, List.set_cons_succ]
      refine wpAnyH_take (i := 14) (oi := ⟨some 206, _, _, _, _, _⟩) (v := ?_) rfl (by kernel_rfl) (by kernel_rfl) (by kernel_rfl) (fun _ _ _ h => h) (Or.inl ⟨by rfl, ?_⟩) (by assumption) ?_
      rotate_left 1
      · intro w hSw
        go_split_ands
        go_simp
        try with_reducible rfl
      try simp only [Act.put, List.setIfInBounds_toArray, List.set_cons_zero, List.set_cons_succ]
      refine wpAnyH_take (i := 15) (oi := ⟨some 207, _, _, _, _, _⟩) (v := ?_) rfl (by kernel_rfl) (by kernel_rfl) (by kernel_rfl) (fun _ _ _ h => h) (Or.inl ⟨by rfl, ?_⟩) (by assumption) ?_
      rotate_left 1
      · intro w hSw
        go_split_ands
        go_simp
        try with_reducible rfl
      try simp only [Act.put, List.setIfInBounds_toArray, List.set_cons_zero, List.set_cons_succ]
      refine wpAnyH_take (i := 16) (oi := ⟨some 208, _, _, _, _, _⟩) (v := undef) rfl (by kernel_rfl) (by kernel_rfl) (by kernel_rfl) (fun _ _ _ h => h) (Or.inr ⟨by rfl, rfl⟩) (by assumption) ?_
      try simp only [Act.put, List.setIfInBounds_toArray, List.set_cons_zero, List.set_cons_succ]
      refine wpAnyH_take (i := 17) (oi := ⟨some 209, _, _, _, _, _⟩) (v := undef) rfl (by kernel_rfl) (by kernel_rfl) (by kernel_rfl) (fun _ _ _ h => h) (Or.inr ⟨by rfl, rfl⟩) (by assumption) ?_
      try simp only [Act.put, List.setIfInBounds_toArray, List.set_cons_zero, List.set_cons_succ]
      refine wpAnyH_take (i := 18) (oi := ⟨some 210, _, _, _, _, _⟩) (v := undef) rfl (by kernel_rfl) (by kernel_rfl) (by kernel_rfl) (fun _ _ _ h => h) (Or.inr ⟨by rfl, rfl⟩) (by assumption) ?_
      try simp only [Act.put, List.setIfInBounds_toArray, List.set_cons_zero, List.set_cons_succ]
      refine wpAnyH_take (i := 19) (oi := ⟨some 211, _, _, _, _, _⟩) (v := undef) rfl (by kernel_rfl) (by kernel_rfl) (by kernel_rfl) (fun _ _ _ h => h) (Or.inr ⟨by rfl, rfl⟩) (by assumption) ?_
      try simp only [Act.put, List.setIfInBounds_toArray, List.set_cons_zero, List.set_cons_succ]
      refine wpAnyH_take (i := 20) (oi := ⟨some 212, _, _, _, _, _⟩) (v := undef) rfl (by kernel_rfl) (by kernel_rfl) (by kernel_rfl) (fun _ _ _ h => h) (Or.inr ⟨by rfl, rfl⟩) (by assumption) ?_
      try simp only [Act.put, List.setIfInBounds_toArray, List.set_cons_zero, List.set_cons_succ]
      refine wpAnyH_take (i := 21) (oi := ⟨some 213, _, _, _, _, _⟩) (v := undef) rfl (by kernel_rfl) (by kernel_rfl) (by kernel_rfl) (fun _ _ _ h => h) (Or.inr ⟨by rfl, rfl⟩) (by assumption) ?_
      try simp only [Act.put, List.setIfInBounds_toArray, List.set_cons_zero, List.set_cons_succ]
      refine wpAnyH_take (i := 22) (oi := ⟨some 214, _, _, _, _, _⟩) (v := undef) rfl (by kernel_rfl) (by kernel_rfl) (by kernel_rfl) (fun _ _ _ h => h) (Or.inr ⟨by rfl, rfl⟩) (by assumption) ?_
      try simp only [Act.put, List.setIfInBounds_toArray, List.set_cons_zero, List.set_cons_succ]
      refine wpAnyH_take (i := 23) (oi := ⟨some 215, _, _, _, _, _⟩) (v := undef) rfl (by kernel_rfl) (by kernel_rfl) (by kernel_rfl) (fun _ _ _ h => h) (Or.inr ⟨by rfl, rfl⟩) (by assumption) ?_
      try simp only [Act.put, List.setIfInBounds_toArray, List.set_cons_zero, List.set_cons_succ]
      refine wpAnyH_take (i := 24) (oi := ⟨some 216, _, _, _, _, _⟩) (v := undef) rfl (by kernel_rfl) (by kernel_rfl) (by kernel_rfl) (fun _ _ _ h => h) (Or.inr ⟨by rfl, rfl⟩) (by assumption) ?_
      try simp only [Act.put, List.setIfInBounds_toArray, List.set_cons_zero, List.set_cons_succ]
      refine wpAnyH_take (i := 25) (oi := ⟨some 217, _, _, _, _, _⟩) (v := undef) rfl (by kernel_rfl) (by kernel_rfl) (by kernel_rfl) (fun _ _ _ h => h) (Or.inr ⟨by rfl, rfl⟩) (by assumption) ?_
      try simp only [Act.put, List.setIfInBounds_toArray, List.set_cons_zero, List.set_cons_succ]
      refine wpAnyH_take (i := 26) (oi := ⟨some 218, _, _, _, _, _⟩) (v := undef) rfl (by kernel_rfl) (by kernel_rfl) (by kernel_rfl) (fun _ _ _ h => h) (Or.inr ⟨by rfl, rfl⟩) (by assumption) ?_
      try simp only [Act.put, List.setIfInBounds_toArray, List.set_cons_zero, List.set_cons_succ]
      refine wpAnyH_take (i := 27) (oi := ⟨some 219, _, _, _, _, _⟩) (v := undef) rfl (by kernel_rfl) (by kernel_rfl) (by kernel_rfl) (fun _ _ _ h => h) (Or.inr ⟨by rfl, rfl⟩) (by assumption) ?_
      try simp only [Act.put, List.setIfInBounds_toArray, List.set_cons_zero, List.set_cons_succ]
      refine wpAnyH_take (i := 28) (oi := ⟨some 220, _, _, _, _, _⟩) (v := undef) rfl (by kernel_rfl) (by kernel_rfl) (by kernel_rfl) (fun _ _ _ h => h) (Or.inr ⟨by rfl, rfl⟩) (by assumption) ?_
      try simp only [Act.put, List.setIfInBounds_toArray, List.set_cons_zero, List.set_cons_succ]
      refine wpAnyH_take (i := 29) (oi := ⟨some 221, _, _, _, _, _⟩) (v := undef) rfl (by kernel_rfl) (by kernel_rfl) (by kernel_rfl) (fun _ _ _ h => h) (Or.inr ⟨by rfl, rfl⟩) (by assumption) ?_
      try simp only [Act.put, List.setIfInBounds_toArray, List.set_cons_zero, List.set_cons_succ]
      refine wpAnyH_take (i := 30) (oi := ⟨some 222, _, _, _, _, _⟩) (v := undef) rfl (by kernel_rfl) (by kernel_rfl) (by kernel_rfl) (fun _ _ _ h => h) (Or.inr ⟨by rfl, rfl⟩) (by assumption) ?_
      try simp only [Act.put, List.setIfInBounds_toArray, List.set_cons_zero, List.set_cons_succ]
      refine wpAnyH_take (i := 31) (oi := ⟨some 223, _, _, _, _, _⟩) (v := undef) rfl (by kernel_rfl) (by kernel_rfl) (by kernel_rfl) (fun _ _ _ h => h) (Or.inr ⟨by rfl, rfl⟩) (by assumption) ?_
      try simp only [Act.put, List.setIfInBounds_toArray, List.set_cons_zero, List.set_cons_succ]
      refine wpAnyH_take (i := 32) (oi := ⟨some 224, _, _, _, _, _⟩) (v := ?_) rfl (by kernel_rfl) (by kernel_rfl) (by kernel_rfl) (fun _ _ _ h => h) (Or.inl ⟨by rfl, ?_⟩) (by assumption) ?_
      rotate_left 1
      · intro w hSw
        go_split_ands
        go_simp
        try with_reducible rfl
      try simp only [Act.put, List.setIfInBounds_toArray, List.set_cons_zero, List.set_cons_succ]
      refine wpAnyH_done (by kernel_rfl) ?_ _
      refine NoPanic.normal ?_
      have H2 := hid (H.out.keep (((Below.refl _ _).drew).trans hbk))
      have HB2 := hid (H.out.bkeep (Below.refl base _) (((Below.refl _ _).drew).trans hbk))
      have d3 : w'.cell? ⟨R, 3, none⟩ = some (.slice At tn ct) := H2.out.cell 3 rfl
      go_wp2_with (at_builtin; refine wpl_oct rfl _ _ rfl base _ m.text n _ H2.out.text rfl rfl h0 h1 (by have := Htl.out; omega) H2.out.size ?_; intro v' w3 hO3 hg3; obtain ⟨A3, c3', hv3⟩ := OwnB.shapeV hO3 (n := tn + 1) (by rw [List.length_append, Htn.out]; rfl); subst hv3; have H3 := hid ((H2.out.alloc (.cells #[.int .u8 n] 5)).growT hg3 hO3); have HB3 := hid (below_grown (H2.out.bkeep (Below.refl base _) (alloc_below w' (.cells #[.int .u8 n] 5))) (H2.out.alloc (.cells #[.int .u8 n] 5)).size (OwnB.lo_ H2.out.text) hg3); have g3 := H3.out.fz 3; have q3 : w3.cell? ⟨R, 3, none⟩ = some (.slice At tn ct) := H3.out.cell 3 rfl; clear hO3 hg3)
      go_ret
      rw [Hq.out]
      exact ⟨⟨_, rfl, hid rfl⟩, Rf.rgs (m := { m with text := m.text ++ [bOf n] }) (H3.out.set 3 (.slice A3 (tn + 1) c3')) rfl rfl rfl rfl, HB2.out.trans (H3.out.bset HB3.out 3 _)⟩
end Go.Proofs.Ytihgmgpcdodknaa
/- muslinref12.Tokens. -/
namespace Go.Proofs.Ytihgmgpcdodknaa
open Go.RowKit

theorem mEnd_le (m : Mc) : (mEnd m).st ≤ 15 := by unfold mEnd; split <;> (show _ ≤ 15; simp)
theorem mTag_st {m : Mc} (c : UInt8) (h : m.st ≤ 15) : (mTag m c).1.st ≤ 15 := by
  have he := mEnd_le
  unfold mTag
  split <;> (repeat' split) <;> first | exact he _ | exact h | (show (_ : Nat) ≤ 15; first | exact h | exact Nat.le_of_ble_eq_true rfl)
theorem mVal_st {m : Mc} (c : UInt8) (h : m.st ≤ 15) : (mVal m c).1.st ≤ 15 := by
  have he := mEnd_le
  unfold mVal
  split <;> (repeat' split) <;> first | exact he _ | exact h | (show (_ : Nat) ≤ 15; first | exact h | exact Nat.le_of_ble_eq_true rfl)
theorem mOut_st {m : Mc} (c : UInt8) (r : List UInt8) (h : m.st ≤ 15) : (mOut m c r).1.st ≤ 15 := by
  unfold mOut
  split <;> (repeat' split) <;> first | exact h | (show (_ : Nat) ≤ 15; first | exact h | exact Nat.le_of_ble_eq_true rfl)
theorem mStep_st {m : Mc} (c : UInt8) (r : List UInt8) (h : m.st ≤ 15) : (mStep m c r).1.st ≤ 15 := by
  unfold mStep
  split
  · exact mTag_st c h
  · split
    · exact mVal_st c h
    · exact mOut_st c r h
theorem tag_any (base R : Nat) (s : ByteArray) (m : Mc) (n : Int) (h0 : 0 ≤ n) (h1 : n ≤ 255) (hst : inTag m.st = true) (b : Nat) (w : World) (hb : Mb b m) (hb2 : b ≤ 399999) (h : Rf w base R s m) :
    Calls Try.prog 29 #[.pointer (some ⟨R, 0, none⟩), .int .u8 n] w (RM base R s w (mTag m (bOf n))) := by
  have hc : m.st = 3 ∨ m.st = 4 ∨ m.st = 5 ∨ m.st = 6 ∨ m.st = 10 ∨ m.st = 11 := by unfold inTag at hst; simp at hst; omega
  rcases hc with e | e | e | e | e | e
  · exact tag3_any base R s m n h0 h1 e b w hb (by omega) h
  · exact tag4_any base R s m n h0 h1 e b w hb hb2 h
  · exact tag5_any base R s m n h0 h1 e b w hb hb2 h
  · exact tag6_any base R s m n h0 h1 e b w hb hb2 h
  · exact tag10_any base R s m n h0 h1 e b w hb hb2 h
  · exact tag11_any base R s m n h0 h1 e b w hb hb2 h
theorem val_any (base R : Nat) (s : ByteArray) (m : Mc) (n : Int) (h0 : 0 ≤ n) (h1 : n ≤ 255) (hst : inVal m.st = true) (b : Nat) (w : World) (hb : Mb b m) (hb2 : b ≤ 399999) (h : Rf w base R s m) :
    Calls Try.prog 30 #[.pointer (some ⟨R, 0, none⟩), .int .u8 n] w (RM base R s w (mVal m (bOf n))) := by
  have hc : m.st = 7 ∨ m.st = 8 ∨ m.st = 9 := by unfold inVal at hst; simp at hst; omega
  rcases hc with e | e | e
  · exact val7_any base R s m n h0 h1 e b w hb hb2 h
  · exact val8_any base R s m n h0 h1 e b w hb hb2 h
  · exact val9_any base R s m n h0 h1 e b w hb hb2 h
theorem out_any (base R : Nat) (s : ByteArray) (m : Mc) (i : Nat) (hlt : i < s.size) (hs : s.size ≤ 65536) (h15 : m.st ≤ 15) (ht : inTag m.st = false) (hv : inVal m.st = false) (b : Nat) (w : World) (hb : Mb b m) (hb2 : b ≤ 399999) (h : Rf w base R s m) :
    Calls Try.prog 31 #[.pointer (some ⟨R, 0, none⟩), .int .i64 (i : Int)] w (RN base R s w (mOut m s[i] (s.data.toList.drop (i + 1)))) := by
  have hc : m.st = 0 ∨ m.st = 1 ∨ m.st = 2 ∨ m.st = 12 ∨ m.st = 13 ∨ m.st = 14 ∨ m.st = 15 := by unfold inTag at ht; unfold inVal at hv; simp at ht hv; omega
  rcases hc with e | e | e | e | e | e | e
  · exact out0_any base R s m i hlt hs e b w hb hb2 h
  · exact out1_any base R s m i hlt hs e b w hb hb2 h
  · exact out2_any base R s m i hlt hs e b w hb hb2 h
  · exact out12_any base R s m i hlt hs e b w hb hb2 h
  · exact out13_any base R s m i hlt hs e b w hb hb2 h
  · exact out14_any base R s m i hlt hs e b w hb hb2 h
  · exact out15_any base R s m i hlt hs e b w hb hb2 h
theorem bOf_at (s : ByteArray) (i : Nat) (h : i < s.size) {n : Int} (e : bOf n = s[i]) : s.data.toList.drop i = bOf n :: s.data.toList.drop (i + 1) := by rw [dropAt s i h, e]
theorem drop_len (s : ByteArray) (i : Nat) (h : i ≤ s.size) : (s.data.toList.drop i).length = s.size - i := by rw [List.length_drop, len_data]
theorem endsB_len {nm l : List UInt8} (h : endsB nm l = true) : nm.length + 2 ≤ l.length := by
  unfold endsB startsB at h
  rw [Bool.and_eq_true, Bool.and_eq_true, decide_eq_true_iff] at h
  simpa using h.1.1
theorem isPre_len {p l : List UInt8} (h : p.isPrefixOf l = true) : p.length ≤ l.length := by
  obtain ⟨t, e⟩ := List.isPrefixOf_iff_prefix.1 h
  rw [← e, List.length_append]; omega
theorem mOut_k (m : Mc) (c : UInt8) (r : List UInt8) : (mOut m c r).2 ≤ (c :: r).length := by
  have h1 : 1 ≤ (c :: r).length := by simp
  unfold mOut
  split
  · split <;> exact h1
  · split
    · exact h1
    · split
      · exact h1
      · split
        · exact h1
        · exact Nat.zero_le _
  · split
    · exact Nat.zero_le _
    · split
      · exact h1
      · exact Nat.zero_le _
  · split
    · rename_i h; exact isPre_len h
    · exact Nat.zero_le _
  · split <;> exact h1
  · split
    · rename_i h; exact isPre_len h
    · exact h1
  · split
    · rename_i h; exact endsB_len h
    · exact h1
  · exact h1
theorem mOut_le (s : ByteArray) (m : Mc) (i : Nat) (hi : i < s.size) (c : UInt8) (hd : s.data.toList.drop i = c :: s.data.toList.drop (i + 1)) : i + (mOut m c (s.data.toList.drop (i + 1))).2 ≤ s.size := by
  have h := mOut_k m c (s.data.toList.drop (i + 1))
  rw [← hd, List.length_drop, len_data] at h
  omega
/-- what is left to do -/
def msr (s : ByteArray) (i : Nat) (m : Mc) : Nat := 3 * (s.size - i) + wSt m.st
/-- the loop's relation -/
structure Lp (w : World) (R : Nat) (s : ByteArray) (fin : Mc) (wr : World) (i : Nat) (m : Mc) : Prop where
  st : m.st ≤ 15
  le : msr s i m ≤ 3 * s.size
  mb : Mb (3 * s.size - msr s i m) m
  go : mGo m (s.data.toList.drop i) = fin
  rf : Rf wr R R s m
  bw : Below R w wr
theorem Lp.next {w : World} {R : Nat} {s : ByteArray} {fin : Mc} {wr w' : World} {i j : Nat} {m m' : Mc} (h : Lp w R s fin wr i m) (hi : i < s.size) (hj : j ≤ s.size) {c : UInt8} {r : List UInt8} (hd : s.data.toList.drop i = c :: r)
    (e1 : (mStep m c r).1 = m') (e2 : (mStep m c r).2 = s.data.toList.drop j) (hr : Rf w' R R s m') (hb : Below R wr w') : Lp w R s fin w' j m' ∧ msr s j m' < msr s i m := by
  have hlt := mStep_lt m c r
  rw [e1, e2, ← hd, drop_len s i (by omega), drop_len s j hj] at hlt
  have hlt' : msr s j m' < msr s i m := hlt
  refine ⟨⟨?_, ?_, ?_, ?_, hr, h.bw.trans hb⟩, hlt'⟩
  · rw [← e1]; exact mStep_st c r h.st
  · have := h.le; omega
  · have h1 := h.mb.step_ c r
    rw [e1] at h1
    have := h.le
    exact h1.up (by omega)
  · rw [← h.go, hd, mGo_cons, e1, e2]
theorem Lp.fin_ {w : World} {R : Nat} {s : ByteArray} {fin : Mc} {wr : World} {m : Mc} (h : Lp w R s fin wr s.size m) : mFin m = fin := by
  have := h.go
  rw [List.drop_of_length_le (by rw [len_data]; exact Nat.le_refl _)] at this
  exact this
theorem Lp.b {w : World} {R : Nat} {s : ByteArray} {fin : Mc} {wr : World} {i : Nat} {m : Mc} (h : Lp w R s fin wr i m) : Mb (3 * s.size) m := h.mb.up (by omega)

set_option maxRecDepth 100000 in
set_option maxHeartbeats 12800000 in
theorem refTokens_any (s : ByteArray) (w : World) (hs : s.size ≤ 1099511627776) :
    Calls Try.prog 11 #[.string s] w fun e w' => ∃ V, e = .returned (.tuple #[V, .int .i64 (refT s.data.toList).2]) ∧ OwnT w' w.heap.size V (refT s.data.toList).1 ∧ Below w.heap.size w w' := by
  obtain ⟨res, hres⟩ : ∃ res, refT s.data.toList = res := ⟨_, rfl⟩
  rw [hres]
  by_cases hl : s.size ≤ 65536
  · have hd1 : ¬ (65536 : Int) < (s.size : Int) := by omega
    have hd2 : decide ((65536 : Int) < (s.size : Int)) = false := decide_eq_false hd1
    obtain ⟨fin, hfin⟩ : ∃ fin, mGo mc0 s.data.toList = fin := ⟨_, rfl⟩
    have Hres : Hid (res = if 4096 < fin.out.length then ([], 3) else (fin.out, 0)) := hid (by rw [← hres, refT_go, if_neg (by rw [len_data]; omega), hfin])
    obtain ⟨R, hR⟩ : ∃ R, w.heap.size = R := ⟨_, rfl⟩
    have HR := hid hR
    have HL0 : Hid (Lp w R s fin (w.alloc (.cells (rcs s mc0 (.slice none 0 0) (.slice none 0 0) (.slice none 0 0)) 52)) 0 mc0) := hid ⟨by decide, by unfold msr; show 3 * (s.size - 0) + 0 ≤ _; omega, mb0.up (by omega), hfin, ⟨_, _, _, R, Nat.le_refl _, Nat.le_refl _, by rw [← hR]; simp, by rw [← hR]; exact Blk.new w _ _, OwnL.nil _ _ _, OwnB.nil _ _, OwnA.nil _ _⟩, by rw [← hR]; exact alloc_below w _⟩
    clear hres hfin
    go_enter Try.func11, Try.ntmps11
    go_wp2
    go_loopg [5] (3 * s.size) (fun g v5 wr => ∃ (i : Nat) (m : Mc), v5 = .int .i64 (i : Int) ∧ i ≤ s.size ∧ g = msr s i m ∧ Hid (Lp w R s fin wr i m))
    case atStart => exact ⟨0, mc0, rfl, Nat.zero_le _, by unfold msr; show 3 * s.size = 3 * (s.size - 0) + 0; omega, HL0⟩
    case round =>
      obtain ⟨i, m, rfl, hi, rfl, HLp⟩ := hrel
      obtain ⟨q, hq⟩ : ∃ q : Int, (m.st : Int) = q := ⟨_, rfl⟩
      have Hq := hid hq
      have h15 : q ≤ 15 := by rw [← hq]; have := HLp.out.st; omega
      have hq0 : 0 ≤ q := by omega
      have hi0 : (0 : Int) ≤ (i : Int) := by omega
      have Hrf := hid HLp.out.rf
      obtain ⟨VO, VT, VA, B, hrg⟩ := HLp.out.rf
      have c2 : wr.cell? ⟨R, 2, none⟩ = some (.int .i64 q) := hrg.cell 2 (by rw [← hq]; rfl)
      have Hrg := hid hrg
      clear hrg hq
      by_cases hlt : i < s.size
      · obtain ⟨n, hn', n0, n1, hbn⟩ := byteOf s i hlt
        have Hd := hid (bOf_at s i hlt hbn)
        have Hn := hid hbn
        have hmi1 : (i : Int) < (s.size : Int) := by omega
        have hmi2 : decide ((i : Int) < (s.size : Int)) = true := decide_eq_true hmi1
        have hmi3 : decide (i < s.size) = true := decide_eq_true hlt
        have Hb3 := hid (show 3 * s.size ≤ 399999 by omega)
        clear hbn
        by_cases hA : 3 ≤ q ∧ q ≤ 6
        · have a1 := hA.1
          have a2 := hA.2
          have d1 : decide (3 ≤ q) = true := decide_eq_true a1
          have d2 : decide (q ≤ 6) = true := decide_eq_true a2
          have Hin : Hid (inTag m.st = true) := hid (by have := Hq.out; unfold inTag; simp; omega)
          clear hA
          obtain ⟨p, hp⟩ : ∃ p, mTag m (bOf n) = p := ⟨_, rfl⟩
          have Hms := hid (show mStep m (bOf n) (s.data.toList.drop (i + 1)) = (p.1, if p.2 then bOf n :: s.data.toList.drop (i + 1) else s.data.toList.drop (i + 1)) from by unfold mStep; rw [if_pos Hin.out, hp])
          have Hct := hid (tag_any R R s m n n0 n1 Hin.out (3 * s.size) wr HLp.out.b Hb3.out Hrf.out)
          rw [hp] at Hct
          clear hp
          obtain ⟨m2, ag⟩ := p
          cases ag with
          | true =>
            have HN := hid (fun w1 h1 h2 => HLp.out.next (w' := w1) (j := i) (m' := m2) hlt hi Hd.out (by rw [Hms.out]) (by rw [Hms.out, Hd.out]; rfl) h1 h2)
            go_wp2_with (go_at_call 29; refine (Hct.out).mono ?_; rintro e w1 ⟨rfl, hr1, hb1⟩)
            have HN2 := HN.out w1 hr1 hb1
            go_roundg (msr s i m2)
            case measure => exact HN2.2
            case rel => exact ⟨i, m2, rfl, hi, rfl, hid HN2.1⟩
          | false =>
            have HN := hid (fun w1 h1 h2 => HLp.out.next (w' := w1) (j := i + 1) (m' := m2) hlt hlt Hd.out (by rw [Hms.out]) (by rw [Hms.out]; rfl) h1 h2)
            go_wp2_with (go_at_call 29; refine (Hct.out).mono ?_; rintro e w1 ⟨rfl, hr1, hb1⟩)
            have HN2 := HN.out w1 hr1 hb1
            go_roundg (msr s (i + 1) m2)
            case measure => exact HN2.2
            case rel => exact ⟨i + 1, m2, by go_num, by omega, rfl, hid HN2.1⟩
        · by_cases h10 : q = 10
          · subst h10
            have Hin : Hid (inTag m.st = true) := hid (by have := Hq.out; unfold inTag; simp; omega)
            clear hA
            obtain ⟨p, hp⟩ : ∃ p, mTag m (bOf n) = p := ⟨_, rfl⟩
            have Hms := hid (show mStep m (bOf n) (s.data.toList.drop (i + 1)) = (p.1, if p.2 then bOf n :: s.data.toList.drop (i + 1) else s.data.toList.drop (i + 1)) from by unfold mStep; rw [if_pos Hin.out, hp])
            have Hct := hid (tag_any R R s m n n0 n1 Hin.out (3 * s.size) wr HLp.out.b Hb3.out Hrf.out)
            rw [hp] at Hct
            clear hp
            obtain ⟨m2, ag⟩ := p
            cases ag with
            | true =>
              have HN := hid (fun w1 h1 h2 => HLp.out.next (w' := w1) (j := i) (m' := m2) hlt hi Hd.out (by rw [Hms.out]) (by rw [Hms.out, Hd.out]; rfl) h1 h2)
              go_wp2_with (go_at_call 29; refine (Hct.out).mono ?_; rintro e w1 ⟨rfl, hr1, hb1⟩)
              have HN2 := HN.out w1 hr1 hb1
              go_roundg (msr s i m2)
              case measure => exact HN2.2
              case rel => exact ⟨i, m2, rfl, hi, rfl, hid HN2.1⟩
            | false =>
              have HN := hid (fun w1 h1 h2 => HLp.out.next (w' := w1) (j := i + 1) (m' := m2) hlt hlt Hd.out (by rw [Hms.out]) (by rw [Hms.out]; rfl) h1 h2)
              go_wp2_with (go_at_call 29; refine (Hct.out).mono ?_; rintro e w1 ⟨rfl, hr1, hb1⟩)
              have HN2 := HN.out w1 hr1 hb1
              go_roundg (msr s (i + 1) m2)
              case measure => exact HN2.2
              case rel => exact ⟨i + 1, m2, by go_num, by omega, rfl, hid HN2.1⟩
          · by_cases h11 : q = 11
            · subst h11
              have Hin : Hid (inTag m.st = true) := hid (by have := Hq.out; unfold inTag; simp; omega)
              clear hA
              obtain ⟨p, hp⟩ : ∃ p, mTag m (bOf n) = p := ⟨_, rfl⟩
              have Hms := hid (show mStep m (bOf n) (s.data.toList.drop (i + 1)) = (p.1, if p.2 then bOf n :: s.data.toList.drop (i + 1) else s.data.toList.drop (i + 1)) from by unfold mStep; rw [if_pos Hin.out, hp])
              have Hct := hid (tag_any R R s m n n0 n1 Hin.out (3 * s.size) wr HLp.out.b Hb3.out Hrf.out)
              rw [hp] at Hct
              clear hp
              obtain ⟨m2, ag⟩ := p
              cases ag with
              | true =>
                have HN := hid (fun w1 h1 h2 => HLp.out.next (w' := w1) (j := i) (m' := m2) hlt hi Hd.out (by rw [Hms.out]) (by rw [Hms.out, Hd.out]; rfl) h1 h2)
                go_wp2_with (go_at_call 29; refine (Hct.out).mono ?_; rintro e w1 ⟨rfl, hr1, hb1⟩)
                have HN2 := HN.out w1 hr1 hb1
                go_roundg (msr s i m2)
                case measure => exact HN2.2
                case rel => exact ⟨i, m2, rfl, hi, rfl, hid HN2.1⟩
              | false =>
                have HN := hid (fun w1 h1 h2 => HLp.out.next (w' := w1) (j := i + 1) (m' := m2) hlt hlt Hd.out (by rw [Hms.out]) (by rw [Hms.out]; rfl) h1 h2)
                go_wp2_with (go_at_call 29; refine (Hct.out).mono ?_; rintro e w1 ⟨rfl, hr1, hb1⟩)
                have HN2 := HN.out w1 hr1 hb1
                go_roundg (msr s (i + 1) m2)
                case measure => exact HN2.2
                case rel => exact ⟨i + 1, m2, by go_num, by omega, rfl, hid HN2.1⟩
            · by_cases h7 : q = 7
              · subst h7
                have Hin : Hid (inVal m.st = true) := hid (by have := Hq.out; unfold inVal; simp; omega)
                have Hnt : Hid (inTag m.st = false) := hid (by have := Hq.out; unfold inTag; simp; omega)
                clear hA
                obtain ⟨p, hp⟩ : ∃ p, mVal m (bOf n) = p := ⟨_, rfl⟩
                have Hms := hid (show mStep m (bOf n) (s.data.toList.drop (i + 1)) = (p.1, if p.2 then bOf n :: s.data.toList.drop (i + 1) else s.data.toList.drop (i + 1)) from by unfold mStep; rw [if_neg (by rw [Hnt.out]; simp), if_pos Hin.out, hp])
                have Hct := hid (val_any R R s m n n0 n1 Hin.out (3 * s.size) wr HLp.out.b Hb3.out Hrf.out)
                rw [hp] at Hct
                clear hp
                obtain ⟨m2, ag⟩ := p
                cases ag with
                | true =>
                  have HN := hid (fun w1 h1 h2 => HLp.out.next (w' := w1) (j := i) (m' := m2) hlt hi Hd.out (by rw [Hms.out]) (by rw [Hms.out, Hd.out]; rfl) h1 h2)
                  go_wp2_with (go_at_call 30; refine (Hct.out).mono ?_; rintro e w1 ⟨rfl, hr1, hb1⟩)
                  have HN2 := HN.out w1 hr1 hb1
                  go_roundg (msr s i m2)
                  case measure => exact HN2.2
                  case rel => exact ⟨i, m2, rfl, hi, rfl, hid HN2.1⟩
                | false =>
                  have HN := hid (fun w1 h1 h2 => HLp.out.next (w' := w1) (j := i + 1) (m' := m2) hlt hlt Hd.out (by rw [Hms.out]) (by rw [Hms.out]; rfl) h1 h2)
                  go_wp2_with (go_at_call 30; refine (Hct.out).mono ?_; rintro e w1 ⟨rfl, hr1, hb1⟩)
                  have HN2 := HN.out w1 hr1 hb1
                  go_roundg (msr s (i + 1) m2)
                  case measure => exact HN2.2
                  case rel => exact ⟨i + 1, m2, by go_num, by omega, rfl, hid HN2.1⟩
              · by_cases h8 : q = 8
                · subst h8
                  have Hin : Hid (inVal m.st = true) := hid (by have := Hq.out; unfold inVal; simp; omega)
                  have Hnt : Hid (inTag m.st = false) := hid (by have := Hq.out; unfold inTag; simp; omega)
                  clear hA
                  obtain ⟨p, hp⟩ : ∃ p, mVal m (bOf n) = p := ⟨_, rfl⟩
                  have Hms := hid (show mStep m (bOf n) (s.data.toList.drop (i + 1)) = (p.1, if p.2 then bOf n :: s.data.toList.drop (i + 1) else s.data.toList.drop (i + 1)) from by unfold mStep; rw [if_neg (by rw [Hnt.out]; simp), if_pos Hin.out, hp])
                  have Hct := hid (val_any R R s m n n0 n1 Hin.out (3 * s.size) wr HLp.out.b Hb3.out Hrf.out)
                  rw [hp] at Hct
                  clear hp
                  obtain ⟨m2, ag⟩ := p
                  cases ag with
                  | true =>
                    have HN := hid (fun w1 h1 h2 => HLp.out.next (w' := w1) (j := i) (m' := m2) hlt hi Hd.out (by rw [Hms.out]) (by rw [Hms.out, Hd.out]; rfl) h1 h2)
                    go_wp2_with (go_at_call 30; refine (Hct.out).mono ?_; rintro e w1 ⟨rfl, hr1, hb1⟩)
                    have HN2 := HN.out w1 hr1 hb1
                    go_roundg (msr s i m2)
                    case measure => exact HN2.2
                    case rel => exact ⟨i, m2, rfl, hi, rfl, hid HN2.1⟩
                  | false =>
                    have HN := hid (fun w1 h1 h2 => HLp.out.next (w' := w1) (j := i + 1) (m' := m2) hlt hlt Hd.out (by rw [Hms.out]) (by rw [Hms.out]; rfl) h1 h2)
                    go_wp2_with (go_at_call 30; refine (Hct.out).mono ?_; rintro e w1 ⟨rfl, hr1, hb1⟩)
                    have HN2 := HN.out w1 hr1 hb1
                    go_roundg (msr s (i + 1) m2)
                    case measure => exact HN2.2
                    case rel => exact ⟨i + 1, m2, by go_num, by omega, rfl, hid HN2.1⟩
                · by_cases h9 : q = 9
                  · subst h9
                    have Hin : Hid (inVal m.st = true) := hid (by have := Hq.out; unfold inVal; simp; omega)
                    have Hnt : Hid (inTag m.st = false) := hid (by have := Hq.out; unfold inTag; simp; omega)
                    clear hA
                    obtain ⟨p, hp⟩ : ∃ p, mVal m (bOf n) = p := ⟨_, rfl⟩
                    have Hms := hid (show mStep m (bOf n) (s.data.toList.drop (i + 1)) = (p.1, if p.2 then bOf n :: s.data.toList.drop (i + 1) else s.data.toList.drop (i + 1)) from by unfold mStep; rw [if_neg (by rw [Hnt.out]; simp), if_pos Hin.out, hp])
                    have Hct := hid (val_any R R s m n n0 n1 Hin.out (3 * s.size) wr HLp.out.b Hb3.out Hrf.out)
                    rw [hp] at Hct
                    clear hp
                    obtain ⟨m2, ag⟩ := p
                    cases ag with
                    | true =>
                      have HN := hid (fun w1 h1 h2 => HLp.out.next (w' := w1) (j := i) (m' := m2) hlt hi Hd.out (by rw [Hms.out]) (by rw [Hms.out, Hd.out]; rfl) h1 h2)
                      go_wp2_with (go_at_call 30; refine (Hct.out).mono ?_; rintro e w1 ⟨rfl, hr1, hb1⟩)
                      have HN2 := HN.out w1 hr1 hb1
                      go_roundg (msr s i m2)
                      case measure => exact HN2.2
                      case rel => exact ⟨i, m2, rfl, hi, rfl, hid HN2.1⟩
                    | false =>
                      have HN := hid (fun w1 h1 h2 => HLp.out.next (w' := w1) (j := i + 1) (m' := m2) hlt hlt Hd.out (by rw [Hms.out]) (by rw [Hms.out]; rfl) h1 h2)
                      go_wp2_with (go_at_call 30; refine (Hct.out).mono ?_; rintro e w1 ⟨rfl, hr1, hb1⟩)
                      have HN2 := HN.out w1 hr1 hb1
                      go_roundg (msr s (i + 1) m2)
                      case measure => exact HN2.2
                      case rel => exact ⟨i + 1, m2, by go_num, by omega, rfl, hid HN2.1⟩
                  · have e7 : (q == 7) = false := beq_eq_false_iff_ne.2 h7
                    have e8 : (q == 8) = false := beq_eq_false_iff_ne.2 h8
                    have e9 : (q == 9) = false := beq_eq_false_iff_ne.2 h9
                    have e10 : (q == 10) = false := beq_eq_false_iff_ne.2 h10
                    have e11 : (q == 11) = false := beq_eq_false_iff_ne.2 h11
                    have Hnt : Hid (inTag m.st = false) := hid (by have := Hq.out; unfold inTag; simp; omega)
                    have Hnv : Hid (inVal m.st = false) := hid (by have := Hq.out; unfold inVal; simp; omega)
                    have Hoc := hid (out_any R R s m i hlt hl HLp.out.st Hnt.out Hnv.out (3 * s.size) wr HLp.out.b Hb3.out Hrf.out)
                    rw [← Hn.out] at Hoc
                    obtain ⟨p, hp⟩ : ∃ p, mOut m (bOf n) (s.data.toList.drop (i + 1)) = p := ⟨_, rfl⟩
                    rw [hp] at Hoc
                    have Hms := hid (show mStep m (bOf n) (s.data.toList.drop (i + 1)) = (p.1, (bOf n :: s.data.toList.drop (i + 1)).drop p.2) from by unfold mStep; rw [if_neg (by rw [Hnt.out]; simp), if_neg (by rw [Hnv.out]; simp), hp])
                    have Hk : Hid (i + p.2 ≤ s.size) := hid (by rw [← hp]; exact mOut_le s m i hlt (bOf n) Hd.out)
                    clear hp
                    obtain ⟨m2, k⟩ := p
                    have HN := hid (fun w1 h1 h2 => HLp.out.next (w' := w1) (j := i + k) (m' := m2) hlt Hk.out Hd.out (by rw [Hms.out]) (by rw [Hms.out, ← Hd.out, List.drop_drop]) h1 h2)
                    by_cases h3 : 3 ≤ q
                    · have h6 : ¬ q ≤ 6 := fun h => hA ⟨h3, h⟩
                      have d1 : decide (3 ≤ q) = true := decide_eq_true h3
                      have d2 : decide (q ≤ 6) = false := decide_eq_false h6
                      clear hA
                      go_wp2_with fail
                      refine (Hoc.out).mono ?_
                      rintro e w1 ⟨⟨kk, rfl, hkk⟩, hr1, hb1⟩
                      obtain rfl : kk = (k : Int) := hkk.out
                      have hkw : IntKind.i64.wrap ((i : Int) + (k : Int)) = (i : Int) + (k : Int) := by have h2 : i + k ≤ s.size := Hk.out; exact IntWalk.i64_in _ (by omega)
                      go_wp2_with fail
                      have HN2 := HN.out w1 hr1 hb1
                      go_roundg (msr s (i + k) m2)
                      case measure => exact HN2.2
                      case rel => exact ⟨i + k, m2, by rw [Int.natCast_add], Hk.out, rfl, hid HN2.1⟩
                    · have d1 : decide (3 ≤ q) = false := decide_eq_false h3
                      clear hA
                      go_wp2_with fail
                      refine (Hoc.out).mono ?_
                      rintro e w1 ⟨⟨kk, rfl, hkk⟩, hr1, hb1⟩
                      obtain rfl : kk = (k : Int) := hkk.out
                      have hkw : IntKind.i64.wrap ((i : Int) + (k : Int)) = (i : Int) + (k : Int) := by have h2 : i + k ≤ s.size := Hk.out; exact IntWalk.i64_in _ (by omega)
                      go_wp2_with fail
                      have HN2 := HN.out w1 hr1 hb1
                      go_roundg (msr s (i + k) m2)
                      case measure => exact HN2.2
                      case rel => exact ⟨i + k, m2, by rw [Int.natCast_add], Hk.out, rfl, hid HN2.1⟩
      · obtain rfl : i = s.size := by omega
        have Hf := hid HLp.out.fin_
        have Hbw := hid HLp.out.bw
        have Hmb := hid HLp.out.b
        have hmi1 : ¬ (s.size : Int) < (s.size : Int) := by omega
        have htext := hid (fun d W (h : Rf W R R s m) => text_any R R s m d (3 * s.size) W Hmb.out (by omega) h)
        have hstq : Hid ((m.st : Int) = q) := Hq
        obtain ⟨kk, hkk⟩ : ∃ x, m.kind = x := ⟨_, rfl⟩
        have c13 : wr.cell? ⟨R, 13, none⟩ = some (.int .i64 kk) := Hrg.out.cell 13 (by rw [← hkk]; rfl)
        have Hkk := hid hkk
        clear hkk
        go_upto_block 3 with fail
        go_cut [] from 84 to 124 (fun wx => ∃ m' : Mc, Hid (m'.out = fin.out) ∧ Hid (Rf wx R R s m') ∧ Hid (Below R w wx))
        case first =>
          by_cases e0 : q = 0
          · subst e0
            have Hm : Hid (mFin m = mText m true) := hid (by unfold mFin; rw [if_pos (by have := Hq.out; omega)])
            go_wp2_with fail
            refine (htext.out true _ Hrf.out).mono ?_
            rintro e w1 ⟨rfl, hrf1, hb1⟩
            go_wp2
            go_meet
            case rel => exact ⟨_, hid (by rw [← Hf.out, Hm.out]), hid hrf1, hid (Hbw.out.trans hb1)⟩
          · have b0 : (q == 0) = false := beq_eq_false_iff_ne.2 e0
            by_cases e15 : q = 15
            · subst e15
              have Hm : Hid (mFin m = mText m (kk == 1)) := hid (by unfold mFin; rw [if_neg (by have := Hq.out; omega), if_pos (by have := Hq.out; omega), Hkk.out])
              go_wp2_with fail
              refine (htext.out (kk == 1) _ Hrf.out).mono ?_
              rintro e w1 ⟨rfl, hrf1, hb1⟩
              go_wp2
              go_meet
              case rel => exact ⟨_, hid (by rw [← Hf.out, Hm.out]), hid hrf1, hid (Hbw.out.trans hb1)⟩
            · have b15 : (q == 15) = false := beq_eq_false_iff_ne.2 e15
              by_cases e14 : q = 14
              · subst e14
                have Hm : Hid (mFin m = { m with out := m.out ++ [⟨4, [], m.text, [], false⟩] }) := hid (by unfold mFin; rw [if_neg (by have := Hq.out; omega), if_neg (by have := Hq.out; omega), if_pos (by have := Hq.out; omega)])
                obtain ⟨no, hno⟩ : ∃ n, m.out.length = n := ⟨_, rfl⟩
                obtain ⟨An, cn, hVO⟩ := OwnL.shape Hrg.out.out hno
                subst hVO
                obtain ⟨tn, htn⟩ : ∃ tn, m.text.length = tn := ⟨_, rfl⟩
                obtain ⟨At, ct, hVT⟩ := OwnB.shapeV Hrg.out.text htn
                subst hVT
                have hnb : no ≤ 400000 := by have := Hmb.out.out; omega
                obtain ⟨tx, htx⟩ : ∃ tx : ByteArray, (⟨m.text.toArray⟩ : ByteArray) = tx := ⟨_, rfl⟩
                have Htx : Hid (tx.data.toList = m.text) := hid (by rw [← htx])
                have hcv := Hrg.out.drew.text.back
                rw [htx] at hcv
                have HA := hid (Hrg.out.drew.alloc (.cells #[.int .i64 4, .string ⟨#[]⟩, .string tx, .slice none 0 0, .bool false] 36))
                obtain ⟨cs, hcs, hcb, hown⟩ := HA.out.out
                rw [hno] at hown
                have Hcs := hid hcs
                have Hcb := hid hcb
                have Hno := hid hno
                have hne := own_blk_ne hown HA.out.blk (by decide)
                have hlo := HA.out.out.lo_
                have c1 : wr.cell? ⟨R, 1, none⟩ = some (.slice An no cn) := Hrg.out.cell 1 rfl
                have c3 : wr.cell? ⟨R, 3, none⟩ = some (.slice At tn ct) := Hrg.out.cell 3 rfl
                have f1 := Hrg.out.fz 1
                have hBs := Hrg.out.size
                have hRlt := Hrg.out.lt
                obtain ⟨i0, hi', hz0, hz1, hz2⟩ := info_parts info_tk
                clear hcs hcb htx hno htn
                go_wp2_with fail
                refine wp_region_noPanic ?_
                go_region_law
                  ((refine step_append_lies _ (by rfl) _ _ _ (by rfl) R 36 i0 _ 5 72 Try.underlying22 hi' hz0 hz1 hz2 rfl (by omega) (.slice An no cn) no cs (by rfl) hown
                      ⟨wr.heap.size, 0, none⟩ 1 1 [.int .i64 4, .string ⟨#[]⟩, .string tx, .slice none 0 0, .bool false] (by rfl) (by rfl) (World.news_of_block (cs := #[.int .i64 4, .string ⟨#[]⟩, .string tx, .slice none 0 0, .bool false]) (t := 36) (fr := (0, 0)) (heap_alloc_new wr.drew _)) (by simp [Value.oneCell'])
                      (by omega) (by unfold maxLen; omega) (by omega) (by simp; omega) (wr.heap.size + 1) (by simp) ?_; intro gg cap w4 hown3 hgrow hat hlt3
                    have e0 : w4.cell? ⟨R, 1, none⟩ = some (.slice An no cn) := ((hgrow.cell_far _ (by simp; omega) (Ne.symm hne)).trans (HA.out.cell 1 rfl))
                    have e1 : w4.frozen? ⟨R, 1, none⟩ = false := (hgrow.frozen_far _ (by simp; omega) (Ne.symm hne)).trans (HA.out.fz 1)))
                all_goals
                  refine NoPanic.normal ?_
                  have H4 := hid (HA.out.growO hgrow ⟨cs, Hcs.out, Hcb.out, rfl⟩ Hno.out hown3)
                  have HB4 := hid (below_grown (Hrg.out.bkeep (Below.refl R _) ((Below.refl _ wr).drew.alloc (Nat.le_refl _) (.cells #[.int .i64 4, .string ⟨#[]⟩, .string tx, .slice none 0 0, .bool false] 36))) HA.out.size hlo hgrow)
                  clear hown3 hgrow hat hne hlo hown c1 f1
                  go_wp2
                  go_meet
                  case rel =>
                    have H5 := H4.out.set 1 (.slice (some ⟨gg, 0, none⟩) (no + 1) cap)
                    rw [Htx.out] at H5
                    have HB5 := H4.out.bset HB4.out 1 (.slice (some ⟨gg, 0, none⟩) (no + 1) cap)
                    refine ⟨{ m with out := m.out ++ [⟨4, [], m.text, [], false⟩] }, hid (by rw [← Hf.out, Hm.out]), hid (Rf.rgs (m := { m with out := m.out ++ [⟨4, [], m.text, [], false⟩] }) H5 rfl rfl rfl rfl), hid (Hbw.out.trans HB5)⟩
              · have b14 : (q == 14) = false := beq_eq_false_iff_ne.2 e14
                have Hm : Hid (mFin m = m) := hid (by unfold mFin; rw [if_neg (by have := Hq.out; omega), if_neg (by have := Hq.out; omega), if_neg (by have := Hq.out; omega)])
                by_cases e12 : q = 12
                · subst e12
                  go_wp2_with fail
                  go_meet
                  case rel => exact ⟨m, hid (by rw [← Hf.out, Hm.out]), Hrf, Hbw⟩
                · have b12 : (q == 12) = false := beq_eq_false_iff_ne.2 e12
                  go_wp2_with fail
                  go_meet
                  case rel => exact ⟨m, hid (by rw [← Hf.out, Hm.out]), Hrf, Hbw⟩
        case rest =>
          obtain ⟨m', ho, hrf, hb⟩ := hcut
          obtain ⟨VO, VT, VA, B, hrg⟩ := hrf.out
          obtain ⟨nf, hnf⟩ : ∃ nf, fin.out.length = nf := ⟨_, rfl⟩
          obtain ⟨An, cn, hV⟩ := OwnL.shape hrg.out (n := nf) (by rw [ho.out, hnf])
          subst hV
          have c1 : wc.cell? ⟨R, 1, none⟩ = some (.slice An nf cn) := hrg.cell 1 rfl
          have Hrg2 := hid hrg
          have Hnf := hid hnf
          clear hrg hnf c2 c13
          by_cases h4 : 4096 < nf
          · have h4i : (4096 : Int) < (nf : Int) := by omega
            have h4d : decide ((4096 : Int) < (nf : Int)) = true := decide_eq_true h4i
            go_wp2
            go_ret2
            rw [Hres.out, Hnf.out, if_pos h4]
            exact ⟨_, rfl, ⟨[], rfl, World.ownsRow_nil _ _ _ _⟩, hb.out⟩
          · have h4i : ¬ (4096 : Int) < (nf : Int) := by omega
            have h4d : decide ((4096 : Int) < (nf : Int)) = false := decide_eq_false h4i
            go_wp2
            go_ret2
            rw [Hres.out, Hnf.out, if_neg h4]
            exact ⟨_, rfl, by rw [← ho.out]; exact Hrg2.out.out.ownT, hb.out⟩
  · have hd1 : (65536 : Int) < (s.size : Int) := by omega
    have hd2 : decide ((65536 : Int) < (s.size : Int)) = true := decide_eq_true hd1
    have Hres : Hid (res = ([], 5)) := hid (by rw [← hres]; unfold refT; rw [if_pos (by rw [len_data]; omega)])
    clear hres
    go_enter Try.func11, Try.ntmps11
    go_wp2
    go_ret2
    rw [Hres.out]
    exact ⟨_, rfl, ⟨[], rfl, World.ownsRow_nil w _ _ _⟩, Below.refl _ _⟩
end Go.Proofs.Ytihgmgpcdodknaa
