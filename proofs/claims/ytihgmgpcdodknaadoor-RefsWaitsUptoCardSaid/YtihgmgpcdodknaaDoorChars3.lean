/- The pages' Repair and Valid; SameInts. -/
import Derived.Test.YtihgmgpcdodknaaDoorChars2
import Derived.Deep.QuietTactic
import Derived.BigQuiet
set_option linter.unusedVariables false
namespace Go.Proofs.YtihgmgpcdodknaaDoor
open Go.RowKit Go.Shelf

set_option maxRecDepth 100000 in
set_option maxHeartbeats 800000 in
theorem refRepair_any (s : ByteArray) (w : World) (hs : s.size ≤ 137438953472) : Calls Tryd.prog 30 #[.string s] w (RStr w (repairL s.data.toList)) := by
  have hl1 := charsL_len _ s.data.toList (Nat.le_refl _)
  rw [len_data] at hl1
  have Hok := hid (charsL_ok _ s.data.toList (Nat.le_refl _))
  obtain ⟨cs, hcs⟩ : ∃ cs, charsL s.data.toList = cs := ⟨_, rfl⟩
  have Hcs := hid hcs
  rw [hcs] at hl1 Hok
  go_enter Tryd.func30, Tryd.ntmps30
  go_wp2_with (go_at_call 25; refine (refChars_any _ _ hs).mono ?_)
  rintro e w1 ⟨v, rfl, hv, hb1⟩
  rw [hcs] at hv
  have hcell := hv.cells
  have Hcell := hid hcell
  obtain ⟨ad, cap, rfl⟩ := hv.shape
  have Hv := hid hv
  clear hv hcell hcs
  go_wp2
  go_loopw [3, 5] (fun b i wr => ∃ k : Nat, k ≤ cs.length ∧ i = .int .i64 k ∧ Hid (OwnB wr w1.heap.size b (encAll (cs.take k))) ∧ Below w1.heap.size w1 wr) (fun _ i _ => cs.length - (intOf i).toNat)
  case atStart => exact ⟨0, Nat.zero_le _, rfl, hid (OwnB.nil _ _), Below.refl _ _⟩
  case round =>
    obtain ⟨k, hk, rfl, hO, hb⟩ := hrel
    obtain ⟨ad2, cap2, rfl⟩ := hO.out.shape
    obtain ⟨m, hm⟩ : ∃ m, (encAll (cs.take k)).length = m := ⟨_, rfl⟩
    have hm1 : m ≤ 4 * k := by rw [← hm]; have := encAll_len (cs.take k); rw [List.length_take] at this; omega
    have Hm := hid hm
    have hcv := OwnB.back hO.out
    rw [hm] at hcv ⊢
    clear hm
    by_cases hlt : k < cs.length
    · have hx : ∃ g, ad = some ⟨g, 0, none⟩ ∧ g < w1.heap.size ∧ w1.cell? ⟨g, k, none⟩ = some (.int .i64 cs[k]) := by
        rcases Hcell.out with ⟨_, h0⟩ | ⟨g, cp, he, _, hg, hc⟩
        · rw [h0] at hlt; simp at hlt
        · injection he with he _ _
          exact ⟨g, he, hg, hc k hlt⟩
      obtain ⟨g, rfl, hg, hc⟩ := hx
      rw [← hb.cell (p := ⟨g, k, none⟩) hg] at hc
      obtain ⟨x, hx⟩ : ∃ x, cs[k] = x := ⟨_, rfl⟩
      rw [hx] at hc
      have hxo := Hok.out x (by rw [← hx]; exact List.getElem_mem hlt)
      have hxb := of_decide_eq_true hxo.1
      have hx1 : 0 ≤ x ∧ x ≤ 1114111 := by omega
      have HL : Hid (encL x = Lib.encodeRune x) := hid (by unfold encL; rw [hxo.1]; rfl)
      have Hx := hid hx
      clear hx hxo hxb hcv
      go_wp2_with (go_at_call 26; refine (refEncode_any _ (by omega) (by omega) _).mono ?_)
      rintro e w2 ⟨t, r, rfl, ht, hr, hb2⟩
      have htl := len_data t
      have hte : t.data.toList = Lib.encodeRune x := by rw [ht.out, HL.out]
      have hts : t.size ≤ 4 := by rw [← htl, hte]; exact (encodeRune_len x).2
      have hO2 := hO.out.keep hb2
      have hb3 := after hb hb2 hb.size
      have Hte := hid hte
      clear htl hte ht hr
      rw [← Hm.out]
      go_wp2_with (at_builtin; refine wpl_pushs1 rfl _ _ rfl w1.heap.size _ _ _ hO2 rfl t rfl (by rw [Hm.out]; omega) hb3.size ?_)
      intro v' w3 hO3 hb4
      go_wp2
      go_roundw
      case rel =>
        refine ⟨k + 1, by omega, by go_num, hid ?_, hb3.trans hb4⟩
        rw [List.take_succ_eq_append_getElem hlt, encAll_snoc, Hx.out, ← Hte.out]; exact hO3
      case measure => simp [intOf]; omega
    · obtain rfl : k = cs.length := by omega
      go_wp2
      go_ret
      refine ⟨_, rfl, hid ?_, then_ hb1 hb⟩
      unfold repairL; rw [Hcs.out]

set_option maxRecDepth 100000 in
set_option maxHeartbeats 800000 in
theorem refValid_any (s : ByteArray) (w : World) (hs : s.size ≤ 137438953472) : Calls Tryd.prog 28 #[.string s] w (RBool w (Lib.validD s.data.toList)) := by
 have hlen := len_data s
 have Hlen := hid hlen
 clear hlen
 go_enter Tryd.func28, Tryd.ntmps28
 go_wp2
 go_loopw [3] (fun i wr => ∃ k : Nat, k ≤ s.size ∧ i = .int .i64 k ∧ Hid (Lib.validD s.data.toList = Lib.validD (s.data.toList.drop k)) ∧ Below w.heap.size w wr) (fun i _ => s.size - (intOf i).toNat)
 case atStart => exact ⟨0, Nat.zero_le _, rfl, hid rfl, Below.refl _ _⟩
 case round =>
   obtain ⟨k, hk, rfl, hv, hb⟩ := hrel
   by_cases hlt : k < s.size
   · have hde : Hid ((s.extract k s.size).data.toList = s.data.toList.drop k) := hid (drop_extract s k (by omega))
     have hne : s.data.toList.drop k ≠ [] := by
       intro e
       have := congrArg List.length e
       rw [List.length_drop, Hlen.out] at this
       simp at this; omega
     have hdn := decN_pos _ hne
     rw [List.length_drop, Hlen.out] at hdn
     have Hst := hid (valid_step' _ hne)
     have Hne := hid hne
     clear hne
     go_wp2_with (go_at_call 27; refine (refDecode_any _ _ (by rw [ByteArray.size_extract]; omega)).mono ?_)
     rintro e w1 ⟨c, n', rfl, hc, hn, hb1⟩
     obtain ⟨n, rfl⟩ : ∃ n : Nat, n' = (n : Int) := ⟨_, hn.out⟩
     have hn2 : decN (s.data.toList.drop k) = n := by have := hn.out; rw [hde.out] at this; omega
     have Hn := hid hn2
     have hkn : 1 ≤ n ∧ k + n ≤ s.size := by omega
     have hb2 : Below w.heap.size w w1 := after hb hb1 hb.size
     have hcw := hc.out
     rw [hde.out] at hcw
     have Hc := hid hcw
     clear hdn hn2 hcw hc hn
     by_cases hc0 : c < 0
     · go_wp2
       go_ret
       refine ⟨_, rfl, hid ?_, hb2⟩
       rw [hv.out, Hst.out, if_pos (by rw [← Hc.out]; exact hc0)]
     · go_wp2
       go_roundw
       case rel =>
         refine ⟨k + n, by omega, by go_num, hid ?_, hb2⟩
         rw [hv.out, Hst.out, if_neg (by rw [← Hc.out]; omega), Hn.out, List.drop_drop]
       case measure => simp [intOf]; omega
   · obtain rfl : k = s.size := by omega
     go_wp2
     go_ret
     refine ⟨_, rfl, hid ?_, hb⟩
     rw [hv.out, List.drop_of_length_le (by rw [Hlen.out]; exact Nat.le_refl _)]; rfl

set_option maxRecDepth 100000 in
set_option maxHeartbeats 800000 in
/-- two slices that hold the same numbers -/
theorem sameInts_any (u v : Value) (b1 b2 : Nat) (l : List Int) (w : World) (hu : OwnI w b1 u l) (hv : OwnI w b2 v l) (hl : l.length ≤ 1099511627776) :
   Calls Tryd.prog 24 #[u, v] w fun e w' => e = .returned (.bool true) ∧ Below w.heap.size w w' := by
 have Hu := hid hu.cells
 have Hv := hid hv.cells
 obtain ⟨ad, cap, rfl⟩ := hu.shape
 obtain ⟨ad2, cap2, rfl⟩ := hv.shape
 clear hu hv
 go_enter Tryd.func24, Tryd.ntmps24
 go_wp2
 go_loopw [5] (fun i wr => ∃ k : Nat, k ≤ l.length ∧ i = .int .i64 k ∧ Below w.heap.size w wr) (fun i _ => l.length - (intOf i).toNat)
 case atStart => exact ⟨0, Nat.zero_le _, rfl, Below.refl _ _⟩
 case round =>
   obtain ⟨k, hk, rfl, hb⟩ := hrel
   by_cases hlt : k < l.length
   · have get : ∀ {ad : Option Addr} {cap : Nat} {b0 : Nat}, (Value.slice ad l.length cap = .slice none 0 0 ∧ l = [] ∨ ∃ g cp, Value.slice ad l.length cap = .slice (some ⟨g, 0, none⟩) l.length cp ∧ b0 ≤ g ∧ g < w.heap.size ∧ ∀ j (hj : j < l.length), w.cell? ⟨g, j, none⟩ = some (.int .i64 l[j])) → ∃ g, ad = some ⟨g, 0, none⟩ ∧ wr.cell? ⟨g, k, none⟩ = some (.int .i64 l[k]) := by
       intro ad cap b0 h
       rcases h with ⟨_, h0⟩ | ⟨g, cp, he, _, hg, hc⟩
       · rw [h0] at hlt; simp at hlt
       · injection he with he _ _
         exact ⟨g, he, by rw [hb.cell (p := ⟨g, k, none⟩) hg]; exact hc k hlt⟩
     obtain ⟨g1, rfl, hc1⟩ := get Hu.out
     obtain ⟨g2, rfl, hc2⟩ := get Hv.out
     obtain ⟨x, hx⟩ : ∃ x, l[k] = x := ⟨_, rfl⟩
     rw [hx] at hc1 hc2
     clear hx get
     go_wp2_with (go_quiet (fail))
     go_roundw
     case rel => exact ⟨k + 1, by omega, by go_num, below_drewN hb _⟩
     case measure => simp [intOf]; omega
   · obtain rfl : k = l.length := by omega
     go_wp2
     go_ret
     exact ⟨rfl, hb⟩
end Go.Proofs.YtihgmgpcdodknaaDoor
