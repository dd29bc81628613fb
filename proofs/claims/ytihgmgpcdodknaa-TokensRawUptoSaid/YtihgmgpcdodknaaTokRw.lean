/- TokensRaw: the law returns true for arguments of bulk at most 1048576 (the '..UptoSaid' statement), whatever the arguments; with the contracts and the plain law that it alone wants. -/
import Derived.Test.YtihgmgpcdodknaaBuf
import Derived.Test.YtihgmgpcdodknaaOct
import Derived.Test.YtihgmgpcdodknaaKit
import Derived.Test.YtihgmgpcdodknaaCssP
import Derived.Test.YtihgmgpcdodknaaRows
import Derived.Test.YtihgmgpcdodknaaOct2
import Derived.Lib.IndexLaws
import Derived.Test.YtihgmgpcdodknaaTokQ
import Derived.Test.YtihgmgpcdodknaaUnfP
import Derived.Test.YtihgmgpcdodknaaTok20
import Derived.Test.YtihgmgpcdodknaaRye
import Derived.Test.YtihgmgpcdodknaaLaw
import Derived.OpenShut
set_option linter.unusedVariables false
namespace Go.Proofs.Ytihgmgpcdodknaa

section
open Go.RowKit

theorem low_take (l : List UInt8) (k : Nat) (h : k < l.length) : low (l.take (k + 1)) = low (l.take k) ++ [lowB l[k]] := by
  rw [List.take_succ_eq_append_getElem h, low_append]; rfl

set_option maxHeartbeats 800000 in
theorem refLower_any (s : ByteArray) (w : World) (hs : s.size ≤ 1099511627775) :
    Calls Try.prog 21 #[.string s] w (RStr w (low s.data.toList)) := by
  have hlen := hid (len_data s)
  go_enter Try.func21, Try.ntmps21
  go_wp2
  go_loopw [3, 4] (fun b i wr => ∃ k : Nat, k ≤ s.size ∧ i = .int .i64 k ∧ Hid (OwnB wr w.heap.size b (low (s.data.toList.take k))) ∧ Below w.heap.size w wr) (fun _ i _ => s.size - (intOf i).toNat)
  case atStart => exact ⟨0, Nat.zero_le _, rfl, hid (OwnB.nil _ _), Below.refl _ _⟩
  case round =>
    obtain ⟨k, hk, rfl, hO, hb⟩ := hrel
    by_cases hlt : k < s.size
    · have hkl : k < s.data.toList.length := by rw [hlen.out]; exact hlt
      have hst := hid (low_take s.data.toList k hkl)
      obtain ⟨c, hc⟩ : ∃ c, s[k] = c := ⟨_, rfl⟩
      rw [data_get s k hlt, hc] at hst
      have hcb : (c.toNat : Int) ≤ 255 := by have := c.toNat_lt; omega
      have hl := hid (lowB_int c.toNat (by omega) hcb)
      rw [bOf_cast] at hl
      have hz := hb.size
      have hln : (low (s.data.toList.take k)).length ≤ k := by rw [low_length, List.length_take]; omega
      go_wp2_with (at_builtin; refine wpl_push1 rfl _ _ rfl w.heap.size _ _ _ wr hO.out rfl rfl (by omega) (by omega) (by omega) (by omega) ?_; intro v1 w1 hO1 hb1; have HO1 := hid hO1; clear hO1)
      all_goals
        go_roundw
        case rel =>
          refine ⟨k + 1, by omega, by go_num, hid ?_, hb.trans hb1⟩
          rw [hst.out]
          refine (congrArg (fun x => OwnB w1 w.heap.size v1 (low (s.data.toList.take k) ++ [x])) ?_).mp HO1.out
          rw [← bOf_cast (lowB c), hl.out]; congr 1; split <;> omega
        case measure => simp [intOf]; omega
    · obtain rfl : k = s.size := by omega
      have hcv := hO.out.back
      go_wp2
      go_ret
      exact ⟨_, rfl, hid (by simp; rw [List.take_of_length_le (by rw [hlen.out]; exact Nat.le_refl _)]), hb⟩
end

section
open Go.RowKit

theorem occ_of_eq (s p : ByteArray) (k : Nat) (hk : k + p.size ≤ s.size) : ((s.extract k (k + p.size)).toList = p.toList) ↔ Lib.occAt s.data.toList p.data.toList k = true := by
  rw [ByteArray.toList_eq, ByteArray.toList_eq, data_extract, Lib.occAt, List.isPrefixOf_iff_prefix, List.prefix_iff_eq_take, len_data, List.drop_take, Nat.add_sub_cancel_left]
  constructor <;> intro h <;> exact h.symm

set_option maxHeartbeats 800000 in
theorem refFind_any (s p : ByteArray) (hs : s.size ≤ 1099511627776) (hp : p.size ≤ 1099511627776) (w : World) :
    Calls Try.prog 22 #[.string s, .string p] w fun e w' => e = .returned (.int .i64 (Lib.index s.data.toList p.data.toList)) ∧ w = w' := by
  have hlen := hid (len_data s)
  have hlenp := hid (len_data p)
  go_enter Try.func22, Try.ntmps22
  go_wp2
  go_loop [5] (fun i => ∃ k : Nat, k ≤ s.size + 1 ∧ i = .int .i64 k ∧ Hid (Lib.NoOcc s.data.toList p.data.toList k)) (fun i => s.size + 1 - (intOf i).toNat)
  case atStart => exact ⟨0, Nat.zero_le _, rfl, hid (Lib.NoOcc.zero _ _)⟩
  case round =>
    obtain ⟨k, hk, rfl, hS⟩ := hrel
    by_cases hlt : k + p.size ≤ s.size
    · have ho := hid (occ_of_eq s p k hlt)
      by_cases hoc : (s.extract k (k + p.size)).toList = p.toList
      · have hocb : ((s.extract k (k + p.size)).toList == p.toList) = true := by rw [hoc]; simp
        have Hoc := hid (ho.out.1 hoc)
        clear hoc
        go_wp2
        go_ret
        refine ⟨ret_int ?_, rfl⟩
        rw [Lib.index_hit hS.out (by rw [hlen.out]; omega) Hoc.out]
      · have hocb : ((s.extract k (k + p.size)).toList == p.toList) = false := by simpa using hoc
        have Hoc : Hid (Lib.occAt s.data.toList p.data.toList k = false) := hid (by
          cases h : Lib.occAt s.data.toList p.data.toList k with
          | false => rfl
          | true => exact absurd (ho.out.2 h) hoc)
        clear hoc
        go_wp2
        go_round
        case rel => exact ⟨k + 1, by omega, by go_num, hid (hS.out.succ Hoc.out)⟩
        case measure => simp [intOf]; omega
    · go_wp2
      go_ret
      refine ⟨ret_int ?_, rfl⟩
      by_cases hp0 : p.data.toList = []
      · exfalso
        have h0 : p.size = 0 := by rw [← hlenp.out, hp0]; rfl
        have := hS.out 0 (by omega)
        rw [hp0] at this
        simp [Lib.occAt] at this
      · rw [Lib.index_past hp0 hS.out (by rw [hlen.out, hlenp.out]; omega)]
end

section
open Go.RowKit

theorem index_no : ∀ (l p : List UInt8), Lib.index l p < 0 → ∀ i, i ≤ l.length → p.isPrefixOf (l.drop i) = false
  | [], p, h, i, hi => by
    obtain rfl : i = 0 := by simpa using hi
    rw [Lib.index] at h
    split at h
    · omega
    · rename_i hp
      cases p with
      | nil => exact absurd rfl hp
      | cons a t => rfl
  | b :: l, p, h, i, hi => by
    rw [Lib.index] at h
    split at h
    · omega
    · rename_i hp
      have hl : Lib.index l p < 0 := by
        split at h
        · rename_i h1
          have : Lib.index l p = -1 := by simpa using h1
          omega
        · omega
      cases i with
      | zero => rw [List.drop_zero]; exact Bool.eq_false_iff.2 hp
      | succ i => simpa using index_no l p hl i (by simpa using hi)
theorem low_app (a b : List UInt8) : low (a ++ b) = low a ++ low b := by simp [low]
theorem low_drop (a : List UInt8) (i : Nat) : low (a.drop i) = (low a).drop i := by simp [low, List.map_drop]
theorem low_tk (a : List UInt8) (i : Nat) : low (a.take i) = (low a).take i := by simp [low, List.map_take]
theorem pre_of {p l : List UInt8} (h : l.take p.length = p) : p.isPrefixOf l = true := by
  rw [List.isPrefixOf_iff_prefix]
  exact ⟨l.drop p.length, (congrArg (· ++ l.drop p.length) h.symm).trans (List.take_append_drop _ _)⟩
/-- no end of the element within, nor begun at the end -/
theorem raw_here (nm s : List UInt8) (hn : low nm = nm)
    (hf : Lib.index (low s ++ [60, 47]) (60 :: 47 :: nm) < 0) (hb : ∀ i, i < s.length → s[i]? = some 60 → ((low s).drop i).isPrefixOf (60 :: 47 :: nm) = false) :
    rawN nm (s ++ (60 :: 47 :: (nm ++ [62]))) = some s.length := by
  rw [raw_none nm s]
  · have he : endsB nm (60 :: 47 :: (nm ++ [62])) = true := by
      unfold endsB startsB
      have h1 : (60 :: 47 :: nm).length ≤ (60 :: 47 :: (nm ++ [62])).length := by simp
      have h2 : (60 :: 47 :: (nm ++ [62])).take (60 :: 47 :: nm).length = 60 :: 47 :: nm := by simp
      have h3 : (60 :: 47 :: (nm ++ [62]))[nm.length + 2]? = some 62 := by simp
      rw [decide_eq_true h1, h2, h3]
      simp only [beq_self_eq_true, Bool.and_true, Bool.true_and]
      rfl
    rw [rawN, if_pos ⟨rfl, he⟩]
    simp
  · intro i hi h0
    rw [Bool.eq_false_iff]
    intro he
    unfold endsB startsB at he
    rw [Bool.and_eq_true, Bool.and_eq_true, beq_iff_eq] at he
    have hst := he.1.2
    rw [show low (60 :: 47 :: nm) = 60 :: 47 :: nm from by rw [show (60 :: 47 :: nm) = [60, 47] ++ nm from rfl, low_app, hn]; rfl] at hst
    have hx : s[i]? = some 60 := by simpa [List.getElem?_drop] using h0
    have hnb := hb i hi hx
    by_cases hlen : (60 :: 47 :: nm).length ≤ (s.drop i).length
    · rw [List.take_append_of_le_length hlen, low_tk, low_drop] at hst
      have h2 := index_no _ _ hf i (by simp [low]; omega)
      rw [List.drop_append_of_le_length (by simp [low]; omega)] at h2
      have h3 : (60 :: 47 :: nm).isPrefixOf ((low s).drop i ++ [60, 47]) = true := pre_of (by rw [List.take_append_of_le_length (by simpa [low] using hlen)]; exact hst)
      rw [h2] at h3
      cases h3
    · have h4 : ((low s).drop i).isPrefixOf (60 :: 47 :: nm) = true := by
        rw [List.isPrefixOf_iff_prefix, ← hst, List.take_append, low_app, low_tk, low_drop, List.take_of_length_le (by simp [low] at hlen ⊢; omega)]
        exact ⟨_, rfl⟩
      rw [hnb] at h4
      cases h4
theorem dec_ne (l : List UInt8) (h : l ≠ []) : decL l ≠ [] := by
  cases l with
  | nil => exact absurd rfl h
  | cons c t =>
    rcases one_mtch (c :: t) with h0 | ⟨m, x, r, e, hm⟩
    · rw [decL_step c t h0]; simp
    · rw [e, decL_mtch m x r hm]
      obtain ⟨u, -, -, -, -, hx, -⟩ := mtch_shape m x hm
      intro e2
      exact hx (List.append_eq_nil_iff.1 e2).1
def wantL (k : Int) (s : List UInt8) : List UInt8 := if (k == 1) = true then decL s else s
theorem want_ne (k : Int) (s : List UInt8) (h : s ≠ []) : wantL k s ≠ [] := by
  unfold wantL; split
  · exact dec_ne s h
  · exact h
theorem toks_raw (nm s : List UInt8) (a : UInt8) (t : List UInt8) (hnm : nm = a :: t) (ha : isLetter a = true) (hc : nm.all nameC = true) (hn : low nm = nm) (hk1 : ¬ elemK nm < 1) (hk3 : ¬ 3 < elemK nm)
    (hf : Lib.index (low s ++ [60, 47]) (60 :: 47 :: nm) < 0) (hb : ∀ i, i < s.length → s[i]? = some 60 → ((low s).drop i).isPrefixOf (60 :: 47 :: nm) = false)
    (hl : (60 :: (nm ++ 62 :: (s ++ (60 :: 47 :: (nm ++ [62]))))).length ≤ 65536) :
    toks (60 :: (nm ++ 62 :: (s ++ (60 :: 47 :: (nm ++ [62]))))) = ([⟨1, nm, [], [], false⟩] ++ (if wantL (elemK nm) s = [] then [] else [⟨3, [], wantL (elemK nm) s, [], false⟩]) ++ [⟨2, nm, [], [], false⟩], 0) := by
  have hop : opensB (nm ++ 62 :: (s ++ (60 :: 47 :: (nm ++ [62])))) = true := by
    subst hnm
    show (if a = 47 ∧ _ then false else a == 47 || a == 33 || a == 63 || isLetter a) = true
    rw [if_neg (by rintro ⟨rfl, _⟩; exact absurd ha (by decide)), ha]; simp
  have h1 : tokT (60 :: (nm ++ 62 :: (s ++ (60 :: 47 :: (nm ++ [62]))))) [] = goOn (markS (60 :: (nm ++ 62 :: (s ++ (60 :: 47 :: (nm ++ [62]))))) []) := by
    subst hnm
    rw [List.cons_append] at hop
    have := tok_textmark [] (t ++ 62 :: (s ++ (60 :: 47 :: (a :: t ++ [62])))) a [] [] (by simp) hop (by decide) rfl
    simpa using this
  have h2 := mark_start nm (s ++ (60 :: 47 :: (nm ++ [62]))) [] a t hnm ha hc (by decide)
  rw [hn, if_neg (by rintro (h | h); exact hk1 h; exact hk3 h)] at h2
  have h3 : rawS (elemK nm) nm (s ++ (60 :: 47 :: (nm ++ [62]))) [⟨1, nm, [], [], false⟩] = some (true, [⟨1, nm, [], [], false⟩] ++ (if wantL (elemK nm) s = [] then [] else [⟨3, [], wantL (elemK nm) s, [], false⟩]) ++ [⟨2, nm, [], [], false⟩], []) := by
    unfold rawS
    rw [raw_here nm s hn hf hb]
    simp only
    rw [List.take_left, ← List.drop_drop, List.drop_left]
    show (toldS s (elemK nm == 1) [⟨1, nm, [], [], false⟩]).bind (tagE (nm ++ [62])) = _
    rw [told_cons _ _ _ (by simp), Option.bind_some]
    show tagE (nm ++ [62]) (if wantL (elemK nm) s = [] then _ else _ ++ [⟨3, [], wantL (elemK nm) s, [], false⟩]) = _
    by_cases h0 : wantL (elemK nm) s = []
    · rw [if_pos h0, if_pos h0, tag_end nm [] _ hc (by simp), hn]; rfl
    · rw [if_neg h0, if_neg h0, tag_end nm [] _ hc (by simp), hn]
  unfold toks
  rw [if_pos hl, h1, h2]
  simp only [List.nil_append]
  rw [h3]
  show (match tokT [] _ with | none => ([], (3 : Int)) | some L => (L, 0)) = _
  rw [tokT_nil]
end

section
open Go.RowKit

theorem names_at (a : Nat) (ha : a < 4) : ∃ (nm : ByteArray) (c : UInt8) (t : List UInt8), (#[.string ⟨#[116, 105, 116, 108, 101]⟩, .string ⟨#[116, 101, 120, 116, 97, 114, 101, 97]⟩, .string ⟨#[115, 116, 121, 108, 101]⟩, .string ⟨#[115, 99, 114, 105, 112, 116]⟩] : Array Value)[a]? = some (.string nm) ∧ nm.data.toList = c :: t ∧ isLetter c = true ∧
    nm.data.toList.all nameC = true ∧ low nm.data.toList = nm.data.toList ∧ ¬ elemK nm.data.toList < 1 ∧ ¬ 3 < elemK nm.data.toList ∧ decide ((a : Int) < 2) = (elemK nm.data.toList == 1) ∧ nm.size ≤ 8 := by
  match a, ha with
  | 0, _ => exact ⟨⟨#[116, 105, 116, 108, 101]⟩, 116, [105, 116, 108, 101], rfl, rfl, by decide, by decide, by decide, by decide, by decide, by decide, by decide⟩
  | 1, _ => exact ⟨⟨#[116, 101, 120, 116, 97, 114, 101, 97]⟩, 116, [101, 120, 116, 97, 114, 101, 97], rfl, rfl, by decide, by decide, by decide, by decide, by decide, by decide, by decide⟩
  | 2, _ => exact ⟨⟨#[115, 116, 121, 108, 101]⟩, 115, [116, 121, 108, 101], rfl, rfl, by decide, by decide, by decide, by decide, by decide, by decide, by decide⟩
  | 3, _ => exact ⟨⟨#[115, 99, 114, 105, 112, 116]⟩, 115, [99, 114, 105, 112, 116], rfl, rfl, by decide, by decide, by decide, by decide, by decide, by decide, by decide⟩

set_option maxRecDepth 100000 in
set_option maxHeartbeats 6400000 in
theorem tokensRaw_any (s : ByteArray) (n : Int) (w : World) (hs : s.size ≤ 1048576) (hn0 : -9223372036854775808 ≤ n) (hn1 : n ≤ 9223372036854775807) (hm : MaxAt w) :
    Calls Try.prog 6 #[.string s, .int .i64 n] w fun e w' => e = .returned (.bool true) ∧ Below w.heap.size w w' := by
  have Hal := hid (alive12_any w hm)
  have Hm := hid hm
  have Hs := hid hs
  have Hlo := hid (fun W => refLower_any s W (by omega))
  have Hde := hid (fun W => refDecode06_any s W (by omega))
  have Htk := hid (fun (t : ByteArray) W (ht : t.size ≤ 1099511627776) (hM : MaxAt W) => tokens_any t W ht hM)
  have Hn := hid (fun n W => num12_any n W)
  obtain ⟨r, hr⟩ : ∃ r, n.tmod 4 = r := ⟨_, rfl⟩
  have hr1 : -3 ≤ r ∧ r ≤ 3 := by
    rw [← hr]
    have h1 := Int.tmod_lt_of_pos n (show (0 : Int) < 4 by decide)
    have h2 := Int.lt_tmod_of_pos n (show (0 : Int) < 4 by decide)
    omega
  obtain ⟨a, ha, ha4⟩ : ∃ a : Nat, (r + 4).tmod 4 = (a : Int) ∧ a < 4 := by
    have h1 := Int.tmod_lt_of_pos (r + 4) (show (0 : Int) < 4 by decide)
    have h2 := Int.tmod_nonneg 4 (show (0 : Int) ≤ r + 4 by omega)
    exact ⟨((r + 4).tmod 4).toNat, by omega, by omega⟩
  obtain ⟨nm, c, t, hcell, hnt, hlet, hall, hlow, hk1, hk3, hk2, hnz⟩ := names_at a ha4
  have Hcell := hid hcell
  have Hnt := hid hnt
  clear hm hs hcell hnt
  go_enter Try.func6, Try.ntmps6
  go_wp2_with fail
  refine Hal.out.mono ?_
  rintro e w1 ⟨rfl, hb1⟩
  have ha4i : (a : Int) < 4 := by omega
  have ha0i : (0 : Int) ≤ (a : Int) := by omega
  go_wp2_with fail
  have hNb := Blk.new w1 9 #[.string ⟨#[116, 105, 116, 108, 101]⟩, .string ⟨#[116, 101, 120, 116, 97, 114, 101, 97]⟩, .string ⟨#[115, 116, 121, 108, 101]⟩, .string ⟨#[115, 99, 114, 105, 112, 116]⟩]
  have hb2 := hb1.trans ((alloc_below w1 (.cells #[.string ⟨#[116, 105, 116, 108, 101]⟩, .string ⟨#[116, 101, 120, 116, 97, 114, 101, 97]⟩, .string ⟨#[115, 116, 121, 108, 101]⟩, .string ⟨#[115, 99, 114, 105, 112, 116]⟩] 9)).mono hb1.size)
  obtain ⟨W2, hW2⟩ : ∃ W2, w1.alloc (.cells #[.string ⟨#[116, 105, 116, 108, 101]⟩, .string ⟨#[116, 101, 120, 116, 97, 114, 101, 97]⟩, .string ⟨#[115, 116, 121, 108, 101]⟩, .string ⟨#[115, 99, 114, 105, 112, 116]⟩] 9) = W2 := ⟨_, rfl⟩
  rw [hW2] at hNb hb2 ⊢
  obtain ⟨N, hNN⟩ : ∃ N, w1.heap.size = N := ⟨_, rfl⟩
  rw [hNN] at hNb ⊢
  have HNb := hid hNb
  have cW : W2.cell? ⟨N, a, none⟩ = some (.string nm) := (hNb.cell a).trans Hcell.out
  have HNlt := hid hNb.lt
  clear hW2 hNN hb1 hNb hr ha
  refine (Hlo.out _).mono ?_
  rintro e w3 ⟨lo, rfl, hlo, hb3⟩
  have hb23 := hb2.trans (hb3.mono hb2.size)
  have Hlz : Hid (lo.size = s.size) := hid (by rw [← len_data, hlo.out, low, List.length_map, len_data])
  have hNlt := Nat.lt_of_lt_of_le HNlt.out hb3.size
  have cN : w3.cell? ⟨N, a, none⟩ = some (.string nm) := cell_aft hb3 HNlt.out cW
  have hct1 : ¬ 9223372036854775807 < lo.size + 2 := by have := Hlz.out; have := Hs.out; omega
  have hct2 : ¬ 9223372036854775807 < 2 + nm.size := by omega
  have Hfd := hid (fun W => refFind_any (lo ++ ⟨#[60, 47]⟩) (⟨#[60, 47]⟩ ++ nm) (by rw [ByteArray.size_append, show (⟨#[60, 47]⟩ : ByteArray).size = 2 from rfl]; have := Hlz.out; have := Hs.out; omega) (by rw [ByteArray.size_append, show (⟨#[60, 47]⟩ : ByteArray).size = 2 from rfl]; omega) W)
  have Hpl : Hid ((⟨#[60, 47]⟩ ++ nm : ByteArray).data.toList = 60 :: 47 :: nm.data.toList) := hid (by rw [data_append]; rfl)
  have Hll : Hid ((lo ++ ⟨#[60, 47]⟩ : ByteArray).data.toList = low s.data.toList ++ [60, 47]) := hid (by rw [data_append, hlo.out])
  rw [Hpl.out, Hll.out] at Hfd
  obtain ⟨f, hf⟩ : ∃ f, Lib.index (low s.data.toList ++ [60, 47]) (60 :: 47 :: nm.data.toList) = f := ⟨_, rfl⟩
  rw [hf] at Hfd
  have Hf := hid hf
  clear hf cW
  by_cases hf0 : 0 ≤ f
  · have hfd : decide (0 ≤ f) = true := decide_eq_true hf0
    go_wp2_with (go_at_call 22; refine (Hfd.out _).mono ?_; rintro e w4 ⟨rfl, hw⟩; obtain rfl := hw)
    go_ret
    exact ⟨rfl, hb23⟩
  · have hfd : decide (0 ≤ f) = false := decide_eq_false hf0
    by_cases hbig : 60000 < s.size
    · have hbg : (60000 : Int) < (s.size : Int) := by omega
      have hbgd : decide ((60000 : Int) < (s.size : Int)) = true := decide_eq_true hbg
      go_wp2_with (go_at_call 22; refine (Hfd.out _).mono ?_; rintro e w4 ⟨rfl, hw⟩; obtain rfl := hw)
      go_ret
      exact ⟨rfl, hb23⟩
    · have hbg : ¬ (60000 : Int) < (s.size : Int) := by omega
      have hbgd : decide ((60000 : Int) < (s.size : Int)) = false := decide_eq_false hbg
      go_wp2_with (go_at_call 22; refine (Hfd.out _).mono ?_; rintro e w4 ⟨rfl, hw⟩; obtain rfl := hw)
      go_loopg [7] s.size (fun g v7 wr => ∃ k : Nat, v7 = .int .i64 (k : Int) ∧ k ≤ s.size ∧ g = s.size - k ∧ Hid (∀ i, i < k → s.data.toList[i]? = some 60 → ((low s.data.toList).drop i).isPrefixOf (60 :: 47 :: nm.data.toList) = false) ∧ Hid (Below w3.heap.size w3 wr))
      case atStart => exact ⟨0, rfl, Nat.zero_le _, rfl, hid (fun i hi => absurd hi (by omega)), hid (Below.refl _ _)⟩
      case round =>
        obtain ⟨k, rfl, hk, rfl, hno, hbr⟩ := hrel
        have cNr := cell_aft hbr.out hNlt cN
        have hk0 : (0 : Int) ≤ (k : Int) := by omega
        by_cases hlt : k < s.size
        · obtain ⟨n1, hn1', hn10, hn11, hbn⟩ := byteOf s k hlt
          have hmi1 : (k : Int) < (s.size : Int) := by omega
          have hmi2 : decide ((k : Int) < (s.size : Int)) = true := decide_eq_true hmi1
          have hmi3 : decide (k < s.size) = true := decide_eq_true hlt
          have hlk : k ≤ lo.size := by have := Hlz.out; omega
          have hlki : (k : Int) ≤ (lo.size : Int) := by omega
          have Hget : Hid (s.data.toList[k]? = some (bOf n1)) := hid (by rw [hbn, List.getElem?_eq_getElem (by rw [len_data]; exact hlt), data_get s k hlt])
          clear hbn
          by_cases h60 : n1 = 60
          · subst h60
            have Hbe := hid (fun W => (begins_any (lo.extract k lo.size) (⟨#[60, 47]⟩ ++ nm) W (by rw [ByteArray.size_extract]; have := Hlz.out; have := Hs.out; omega) (by rw [ByteArray.size_append, show (⟨#[60, 47]⟩ : ByteArray).size = 2 from rfl]; omega)).mono fun e w' h => (⟨h.1, h.2.symm⟩ : e = _ ∧ w' = W))
            rw [Hpl.out, data_extract, take_all, hlo.out] at Hbe
            obtain ⟨bb, hbb⟩ : ∃ bb, begL ((low s.data.toList).drop k) (60 :: 47 :: nm.data.toList) = bb := ⟨_, rfl⟩
            rw [hbb] at Hbe
            have Hbb := hid hbb
            clear hbb
            cases bb with
            | true =>
              go_wp2_with (go_quiet ((go_at_call 23; exact Calls.quiet_of_same (Hbe.out _))))
              go_ret
              exact ⟨rfl, (hb23.trans (hbr.out.mono hb23.size)).trans (below_dN _ _ _)⟩
            | false =>
              go_wp2_with (go_quiet ((go_at_call 23; exact Calls.quiet_of_same (Hbe.out _))))
              go_roundg (s.size - (k + 1))
              case measure => omega
              case rel =>
                refine ⟨k + 1, by go_num, by omega, rfl, hid (fun i hi h => ?_), hid (hbr.out.trans (below_dN _ _ _))⟩
                rcases Nat.lt_or_ge i k with h1 | h1
                · exact hno.out i h1 h
                · obtain rfl : i = k := by omega
                  exact Hbb.out
          · have h60b : (n1 == 60) = false := beq_eq_false_iff_ne.2 h60
            go_wp2_with (go_quiet (fail))
            go_roundg (s.size - (k + 1))
            case measure => omega
            case rel =>
              refine ⟨k + 1, by go_num, by omega, rfl, hid (fun i hi h => ?_), hid (hbr.out.trans (below_dN _ _ _))⟩
              rcases Nat.lt_or_ge i k with h1 | h1
              · exact hno.out i h1 h
              · obtain rfl : i = k := by omega
                rw [Hget.out] at h
                injection h with h
                exact (bOf_no n1 hn10 hn11 60 60 rfl h60 h).elim
        · obtain rfl : k = s.size := by omega
          obtain ⟨tt, htt⟩ : ∃ tt : ByteArray, (⟨#[60]⟩ ++ nm ++ ⟨#[62]⟩ ++ s ++ ⟨#[60, 47]⟩ ++ nm ++ ⟨#[62]⟩ : ByteArray) = tt := ⟨_, rfl⟩
          have z1 : (⟨#[60]⟩ : ByteArray).size = 1 := rfl
          have z2 : (⟨#[62]⟩ : ByteArray).size = 1 := rfl
          have z3 : (⟨#[60, 47]⟩ : ByteArray).size = 2 := rfl
          have hts : tt.size = 1 + nm.size + 1 + s.size + 2 + nm.size + 1 := by rw [← htt]; simp only [ByteArray.size_append, z1, z2, z3]
          have Htl : Hid (tt.data.toList = 60 :: (nm.data.toList ++ 62 :: (s.data.toList ++ (60 :: 47 :: (nm.data.toList ++ [62]))))) := hid (by rw [← htt]; simp)
          have Hto : Hid (toks tt.data.toList = ([⟨1, nm.data.toList, [], [], false⟩] ++ (if wantL (elemK nm.data.toList) s.data.toList = [] then [] else [⟨3, [], wantL (elemK nm.data.toList) s.data.toList, [], false⟩]) ++ [⟨2, nm.data.toList, [], [], false⟩], 0)) := hid (by
            rw [Htl.out]
            exact toks_raw _ _ c t Hnt.out hlet hall hlow (by omega) (by omega) (by rw [Hf.out]; omega) (fun i hi h => hno.out i (by rw [len_data] at hi; exact hi) h) (by rw [← Htl.out, len_data]; omega))
          have Htz : Hid (tt.size ≤ 1099511627776) := hid (by omega)
          have hc1 : ¬ 9223372036854775807 < 1 + nm.size := by omega
          have hc2 : ¬ 9223372036854775807 < 1 + nm.size + 1 := by omega
          have hc3 : ¬ 9223372036854775807 < 1 + nm.size + 1 + s.size := by omega
          have hc4 : ¬ 9223372036854775807 < 1 + nm.size + 1 + s.size + 2 := by omega
          have hc5 : ¬ 9223372036854775807 < 1 + nm.size + 1 + s.size + 2 + nm.size := by omega
          have hc6 : ¬ 9223372036854775807 < 1 + nm.size + 1 + s.size + 2 + nm.size + 1 := by omega
          have hb4 := hid (hb23.trans (hbr.out.mono hb23.size))
          have Hmx := hid (Hm.out.keep hb4.out)
          have hNlr := Nat.lt_of_lt_of_le hNlt hbr.out.size
          have Htk2 := hid (fun W (hM : MaxAt W) => Htk.out tt W Htz.out hM)
          rw [Hto.out] at Htk2
          clear hts z1 z2 z3
          go_wp2_with fail
          go_region_held3 (fun w' => w'.cell? ⟨N, a, none⟩ = some (.string nm) ∧ Below wr.heap.size wr w' ∧ N < w'.heap.size)
            (first
              | exact ⟨cNr, (Below.refl _ _).drew, hNlr⟩
              | (go_split_ands
                 exact ⟨cell_aft hbk (by assumption) (by assumption), (by assumption : Below wr.heap.size wr _).trans (hbk.mono (by assumption : Below wr.heap.size wr _).size), size_aft hbk (by assumption)⟩)
              | go_keep)
            (first
              | (go_at_call 18; refine (Htk2.out _ (MaxAt.drew Hmx.out)).mono ?_; rintro e' w' ⟨V, rfl, hT, hbk⟩))
          all_goals
            go_split_ands
            have cN6 := (by assumption : w'.cell? ⟨N, a, none⟩ = some (.string nm))
            have hNlt6 := (by assumption : N < w'.heap.size)
            have hb46 := hb4.out.trans ((by assumption : Below wr.heap.size wr w').mono hb4.out.size)
            have hbnm : bs nm.data.toList = nm := bytes_eq rfl
            by_cases h0 : s.size = 0
            · obtain rfl := empty_of h0
              have hw0 : wantL (elemK nm.data.toList) (⟨#[]⟩ : ByteArray).data.toList = [] := by unfold wantL; split <;> rfl
              rw [hw0] at hT
              have hT2 : OwnT w' wr.drew.heap.size V [⟨1, nm.data.toList, [], [], false⟩, ⟨2, nm.data.toList, [], [], false⟩] := hT
              obtain ⟨g, cap, rfl, hg⟩ := hT2.shape (by simp)
              obtain ⟨va, z0, z1, -, -, -, -⟩ := hT2.at_ (i := 1) (t := ⟨2, nm.data.toList, [], [], false⟩) rfl
              rw [hbnm] at z1
              clear hT hT2 hw0 hbnm
              obtain ⟨kb, hkb⟩ : ∃ kb, (elemK nm.data.toList == 1) = kb := ⟨_, rfl⟩
              rw [hkb] at hk2
              cases kb with
              | true =>
                go_wp2_with fail
                refine (Hde.out _).mono ?_
                rintro e w7 ⟨y, rfl, hy, hb7⟩
                have c6 := cell_aft hb7 hNlt6 cN6
                have k1 : w7.cell? ⟨g, 5, none⟩ = some (.int .i64 2) := cell_aft hb7 hg z0
                have k2 : w7.cell? ⟨g, 6, none⟩ = some (.string nm) := cell_aft hb7 hg z1
                go_wp2_with (go_quiet ((go_at_call 19; exact Calls.quiet_of_same (Hn.out _ _))))
                go_ret
                exact ⟨by first | rfl | simp [*], (hb46.trans (hb7.mono hb46.size)).trans (below_dN _ _ _)⟩
              | false =>
                have k1 : w'.cell? ⟨g, 5, none⟩ = some (.int .i64 2) := z0
                have k2 : w'.cell? ⟨g, 6, none⟩ = some (.string nm) := z1
                go_wp2_with (go_quiet ((go_at_call 19; exact Calls.quiet_of_same (Hn.out _ _))))
                go_ret
                exact ⟨by first | rfl | simp [*], hb46.trans (below_dN _ _ _)⟩
            · have hne : s.data.toList ≠ [] := fun e => h0 (by rw [← len_data, e]; rfl)
              have hsn := str_nil_ne s h0
              have hemp : s.toList.isEmpty = false := by
                rw [ByteArray.toList_eq]
                cases e : s.data.toList with
                | nil => exact absurd e hne
                | cons _ _ => rfl
              rw [if_neg (want_ne _ _ hne)] at hT
              have hT2 : OwnT w' wr.drew.heap.size V [⟨1, nm.data.toList, [], [], false⟩, ⟨3, [], wantL (elemK nm.data.toList) s.data.toList, [], false⟩, ⟨2, nm.data.toList, [], [], false⟩] := hT
              obtain ⟨g, cap, rfl, hg⟩ := hT2.shape (by simp)
              obtain ⟨va, z0, z1, -, -, -, -⟩ := hT2.at_ (i := 2) (t := ⟨2, nm.data.toList, [], [], false⟩) rfl
              obtain ⟨vb, -, -, zx, -, -, -⟩ := hT2.at_ (i := 1) (t := ⟨3, [], wantL (elemK nm.data.toList) s.data.toList, [], false⟩) rfl
              rw [hbnm] at z1
              obtain ⟨x, hx⟩ : ∃ x, bs (wantL (elemK nm.data.toList) s.data.toList) = x := ⟨_, rfl⟩
              have Hx := hid hx
              replace zx : w'.cell? ⟨g, 7, none⟩ = some (.string x) := by rw [← hx]; exact zx
              clear hT hT2 hbnm hx hne
              obtain ⟨kb, hkb⟩ : ∃ kb, (elemK nm.data.toList == 1) = kb := ⟨_, rfl⟩
              rw [hkb] at hk2
              cases kb with
              | true =>
                have Hwk : Hid (wantL (elemK nm.data.toList) s.data.toList = decL s.data.toList) := hid (by unfold wantL; rw [if_pos hkb])
                go_wp2_with fail
                refine (Hde.out _).mono ?_
                rintro e w7 ⟨y, rfl, hy, hb7⟩
                have c6 := cell_aft hb7 hNlt6 cN6
                have k0 : w7.cell? ⟨g, 7, none⟩ = some (.string x) := cell_aft hb7 hg zx
                have k1 : w7.cell? ⟨g, 10, none⟩ = some (.int .i64 2) := cell_aft hb7 hg z0
                have k2 : w7.cell? ⟨g, 11, none⟩ = some (.string nm) := cell_aft hb7 hg z1
                have hxw : (x.toList == y.toList) = true := by rw [ByteArray.toList_eq, ByteArray.toList_eq, hy.out, ← Hx.out, bs_list, Hwk.out]; simp
                go_wp2_with (go_quiet ((go_at_call 19; exact Calls.quiet_of_same (Hn.out _ _))))
                go_ret
                exact ⟨by first | rfl | simp [*], (hb46.trans (hb7.mono hb46.size)).trans (below_dN _ _ _)⟩
              | false =>
                have Hwk : Hid (wantL (elemK nm.data.toList) s.data.toList = s.data.toList) := hid (by unfold wantL; rw [if_neg (by rw [hkb]; decide)])
                have k0 : w'.cell? ⟨g, 7, none⟩ = some (.string x) := zx
                have k1 : w'.cell? ⟨g, 10, none⟩ = some (.int .i64 2) := z0
                have k2 : w'.cell? ⟨g, 11, none⟩ = some (.string nm) := z1
                have hxw : (x.toList == s.toList) = true := by rw [ByteArray.toList_eq, ByteArray.toList_eq, ← Hx.out, bs_list, Hwk.out]; simp
                go_wp2_with (go_quiet ((go_at_call 19; exact Calls.quiet_of_same (Hn.out _ _))))
                go_ret
                exact ⟨by first | rfl | simp [*], hb46.trans (below_dN _ _ _)⟩
end

open Go.ChangeShapes Go.WideShapes Go.ChangeAt Go.RowKit
open Go.ChangeMaps (setBlock shut_map_nil open_string shut_string keptBut_setBlock frozen?_setBlock heap_setBlock_same)

section
variable {H : Type} {enc : TypeId × Value → H}

set_option maxRecDepth 100000 in
theorem tokensRaw_step (W : World) (base : Nat) (args : Array Value) (ds gs : List (DataW H)) (before : List MemPlace) (hsh : W.ShapedOpen Try.prog) 
    (hval : ∀ (j : Nat) t v, Try.f6.params[j]? = some t → args[j]? = some v → Value.okWide Try.prog W .any base t v)
    (hW : DataW.Whole enc Try.prog Try.f6.params.toList Rows.tokensRawSpec.vars false W args.toList ds gs before) (hk : Rows.uptoSmall H (ds ++ gs) = true) :
    Calls Try.prog 6 args W fun e W' => ∃ v, e = .returned v ∧ Rows.tokensRawSpec.post enc Try.prog Try.f6 false true false false W args v W' := by
  have hW' := hW
  obtain ⟨p, q, hA0, hV, rfl, hfz, hnd⟩ := hW
  have hA : DataW.TrodAll enc Try.prog W 0 (fun _ => true) true Try.f6.params.toList args.toList ds p := hA0
  rw [Try.params6] at hA hval
  obtain ⟨v0, vs0, d0, ds0, p0, q0, hargs, rfl, rfl, h0, r0⟩ := trodAll_cons hA
  obtain ⟨v1, vs1, d1, ds1, p1, q1, rfl, rfl, rfl, h1, r1⟩ := trodAll_cons r0
  obtain ⟨rfl, rfl, rfl⟩ := trodAll_nil r1
  obtain rfl : args = #[v0, v1] := by cases args; simp_all
  obtain ⟨rfl, rfl⟩ := trodVars_none hV
  obtain ⟨s0, rfl, rfl, rfl, ws0⟩ := open_string Try.underlying9 (hval 0 9 v0 rfl rfl) h0
  obtain ⟨a1, rfl, rfl, rfl, wa1⟩ := open_int Try.underlying3 (hval 1 3 v1 rfl rfl) h1
  have hx1 := wa1
  simp [Lit.wf, IntKind.min, IntKind.max, IntKind.signed, IntKind.bits] at hx1
  have hbk : Rows.uptoBulkAll _ ≤ 1048576 := of_decide_eq_true hk
  simp only [List.append_nil, Rows.uptoBulkAll, Rows.uptoBulk, len_data] at hbk
  refine (tokensRaw_any s0 a1 W (by omega) hx1.1 hx1.2 (maxAt_of hsh)).mono fun e W' ⟨he, hb⟩ => ?_
  subst he
  exact ⟨_, rfl, law_post laidOut (tb := 4) (by kernel_rfl) Try.underlying4 (of_decide_eq_true (by kernel_rfl)) rfl rfl hW' hb⟩
end

set_option maxRecDepth 100000 in
theorem tokensRaw_lifted (os : Os) (started : os.Started) (H : Type) (enc : TypeId × Value → H) (F : Stop.Interp) :
    ReturnsInHanded {} Try.checked os 6 .any ((Rows.OpenSpec.upto Rows.tokensRawSpec).pre6 enc Try.prog Try.f6 Rows.tokensRawUptoRow.domain false) (((Rows.OpenSpec.upto Rows.tokensRawSpec).at F).post enc Try.prog Try.f6 false true false false) := by
  refine lift_shaped (C := Try.checked) (s := Rows.OpenSpec.upto Rows.tokensRawSpec) (k := Rows.uptoSmall) rfl own started (by kernel_rfl) Try.func6
    (OpenSpec.witness (enc := enc) (C := Try.checked) (s := Rows.OpenSpec.upto Rows.tokensRawSpec) (k := Rows.uptoSmall) rfl false ⟨#[], #[.string ⟨#[]⟩, .int .i64 0], []⟩ 8 (by kernel_rfl) (by kernel_rfl) (by kernel_rfl)
      (x := ([.lit (.string []), .lit (.int .i64 0)], [], [])) (by kernel_rfl) rfl (by kernel_rfl)) ?_
  intro W base args ds gs before hsh hval hW hk
  exact tokensRaw_step W base args ds gs before hsh hval hW hk

theorem TokensRaw_holds : Rows.TokensRawUptoSaid :=
  OpenClaim.holds_of_cond 6 Try.f6 rfl rfl rfl rfl rfl rfl rfl ⟨rfl, rfl, rfl, rfl, rfl⟩ rfl rfl rfl rfl rfl (by kernel_rfl) Try.func6 (by kernel_rfl)
    (of_decide_eq_true (by kernel_rfl)) (by unfold Func.isWrapper; first | (rw [if_pos (by decide +kernel)]; kernel_rfl) | (rw [if_neg (by decide +kernel)]; exact ⟨rfl, rfl⟩))
    (fun os started H enc _ F => tokensRaw_lifted os started H enc F)

#print axioms TokensRaw_holds
end Go.Proofs.Ytihgmgpcdodknaa
