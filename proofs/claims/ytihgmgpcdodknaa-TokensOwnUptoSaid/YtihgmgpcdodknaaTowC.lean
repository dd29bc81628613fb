import Derived.Test.YtihgmgpcdodknaaSam
import Derived.Test.YtihgmgpcdodknaaRdr
import Derived.Test.YtihgmgpcdodknaaMch
import Derived.Test.YtihgmgpcdodknaaLaw
import Derived.OpenShut
set_option linter.unusedVariables false
/- The law TokensOwn: its walk. -/
namespace Go.Proofs.Ytihgmgpcdodknaa
open Go.RowKit

set_option maxRecDepth 100000 in
set_option maxHeartbeats 12800000 in
theorem tokensOwn_any (s : ByteArray) (w : World) (hs : s.size ≤ 1048576) (hm : MaxAt w) :
    Calls Try.prog 7 #[.string s] w fun e w' => e = .returned (.bool true) ∧ Below w.heap.size w w' := by
  have Hal := hid (alive12_any w hm)
  have Hm := hid hm
  have Htk := hid (fun W (hM : MaxAt W) => tokens_any s W (by omega) hM)
  have Href := hid (fun W => refTokens_any s W (by omega))
  obtain ⟨L, hL⟩ : ∃ L, toks s.data.toList = L := ⟨_, rfl⟩
  rw [hL] at Htk
  rw [refT_toks, hL] at Href
  obtain ⟨L, ec⟩ := L
  clear hm hs hL
  go_enter Try.func7, Try.ntmps7
  go_wp2_with fail
  refine Hal.out.mono ?_
  rintro e w1 ⟨rfl, hb1⟩
  have Hm1 := hid (Hm.out.keep hb1)
  have Hb1 := hid hb1
  clear hb1
  go_wp2_with fail
  refine (Htk.out _ Hm1.out).mono ?_
  rintro e w2 ⟨Va, rfl, hTa, hb2⟩
  have Hm2 := hid (Hm1.out.keep hb2)
  have HTa := hid hTa
  have Hb2 := hid hb2
  obtain ⟨n, hn⟩ : ∃ n, L.length = n := ⟨_, rfl⟩
  have Hn := hid hn
  obtain ⟨Aa, ca, hVa⟩ := hTa.len hn
  subst hVa
  clear hTa hb2 hn
  go_wp2_with fail
  refine (Htk.out _ Hm2.out).mono ?_
  rintro e w3 ⟨Vb, rfl, hTb, hb3⟩
  have HTb := hid hTb
  have Hb3 := hid hb3
  have Hall := hid (Hb1.out.trans ((Hb2.out.mono Hb1.out.size).trans (hb3.mono (Nat.le_trans Hb1.out.size Hb2.out.size))))
  have HS0 := hid (Sp.of_own (base := w1.heap.size) (top := w2.heap.size) (w2 := w3) HTa.out (Nat.le_refl _) (fun g hg => hb3.block g hg))
  have hnl : n ≤ 9223372036854775807 := by rw [← Hn.out]; exact HTa.out.len_le
  have Hlo := hid (Nat.le_trans Hb1.out.size (Nat.le_refl w1.heap.size))
  clear hTb hb3
  go_wp2_with fail
  go_loopg [7, 8] n (fun g v7 v8 wr => ∃ i : Nat, v7 = .int .i64 (i : Int) ∧ i ≤ n ∧ g = n - i ∧ Hid (Sp w1.heap.size w2.heap.size w3 Aa n wr))
  case atStart => exact ⟨0, rfl, Nat.zero_le _, rfl, HS0⟩
  case round =>
    obtain ⟨i, rfl, hi, rfl, HS⟩ := hrel
    have hi0 : (0 : Int) ≤ (i : Int) := by omega
    by_cases hlt : i < n
    · have hil : (i : Int) < (n : Int) := by omega
      have hild : decide ((i : Int) < (n : Int)) = true := decide_eq_true hil
      obtain ⟨gt, Ar, m, c, rfl, q3, hrow, hm0⟩ := HS.out.row hlt
      have hadd : (⟨gt, 0, none⟩ : Addr).add (i * 5) = ⟨gt, i * 5, none⟩ := add0 _ _
      have Hrow := hid hrow
      clear hrow
      rename World => w0
      go_wp2_with fail
      go_loopg [8] m (fun g v8 wr => ∃ k : Nat, v8 = .int .i64 (k : Int) ∧ k ≤ m ∧ g = m - k ∧ Hid (Sp w1.heap.size w2.heap.size w3 (some ⟨gt, 0, none⟩) n wr) ∧ wr.cell? ⟨gt, i * 5 + 3, none⟩ = some (.slice Ar m c) ∧ Hid (RowOk w1.heap.size w2.heap.size wr (.slice Ar m c)))
      case atStart => exact ⟨0, rfl, Nat.zero_le _, rfl, HS, q3, Hrow⟩
      case round =>
        clear q3
        obtain ⟨k, rfl, hk, rfl, HS2, q3, Hrow2⟩ := hrel
        have hk0 : (0 : Int) ≤ (k : Int) := by omega
        by_cases hkl : k < m
        · have hkil : (k : Int) < (m : Int) := by omega
          have hkild : decide ((k : Int) < (m : Int)) = true := decide_eq_true hkil
          obtain ⟨ga, rfl, ⟨x0, z0⟩, ⟨x1, z1⟩, hfz, hset⟩ := HS2.out.attr (by omega) Hrow2.out hkl
          have hadd2 : (⟨ga, 0, none⟩ : Addr).add (k * 2) = ⟨ga, k * 2, none⟩ := add0 _ _
          have hf0 := hfz (k * 2)
          have hf1 := hfz (k * 2 + 1)
          have Hset := hid hset
          clear hfz hset
          go_wp2_with fail
          go_roundg (m - (k + 1))
          case measure => omega
          case rel =>
            have hk1 : k + 1 ≤ m := by omega
            have h := Hset.out (.string ⟨#[115, 112, 111, 105, 108, 116]⟩) (.string ⟨#[]⟩)
            exact ⟨k + 1, by go_num, hk1, rfl, hid h.1, (h.2.2 gt _ rfl).trans q3, hid h.2.1⟩
        · obtain rfl : k = m := by omega
          have Htk3 := hid (HS2.out.tok hlt)
          obtain ⟨gt', e, hz, hfz, hset⟩ := Htk3.out
          injection e with e
          injection e with e
          subst e
          obtain ⟨x0, z0⟩ := hz 0 (by omega)
          obtain ⟨x1, z1⟩ := hz 1 (by omega)
          obtain ⟨x2, z2⟩ := hz 2 (by omega)
          obtain ⟨x4, z4⟩ := hz 4 (by omega)
          rw [Nat.add_zero] at z0
          have hf0 := hfz (i * 5)
          have hf1 := hfz (i * 5 + 1)
          have hf2 := hfz (i * 5 + 2)
          have hf3 := hfz (i * 5 + 3)
          have hf4 := hfz (i * 5 + 4)
          have Hset := hid hset
          clear hz hfz hset
          go_wp2_with fail
          go_roundg (n - (i + 1))
          case measure => omega
          case rel =>
            have hi1 : i + 1 ≤ n := by omega
            exact ⟨i + 1, by go_num, hi1, rfl, hid (Hset.out (.int .i64 77) (.string ⟨#[]⟩) (.string ⟨#[]⟩) (.bool false))⟩
    · obtain rfl : i = n := by omega
      have Hbw := hid (HS.out.below Hall.out Hlo.out)
      have HTb2 := hid (HTb.out.far (w' := wr) (fun g h1 h2 => HS.out.far g (.inr h1)))
      go_wp2_with fail
      refine (Href.out _).mono ?_
      rintro e w5 ⟨Vc, rfl, hTc, hb5⟩
      have Hb5 := hid hb5
      have HTc := hid hTc
      clear hTc hb5
      have Hsame := hid (fun W (hb0 : Below w5.heap.size w5 W) => sameAll_any L L Vb Vc W (((((TkA.of_own HTb2.out).below Hb5.out).more Hb5.out.size).below hb0).more hb0.size) (((TkA.of_own HTc.out).below hb0).more hb0.size) HTb2.out.ats_le HTb2.out.len_le)
      rw [(tksEq_iff L L).2 rfl] at Hsame
      go_wp2_with fail
      refine (Hsame.out _ (Below.refl _ _)).mono ?_
      rintro e w6 ⟨rfl, hb6⟩
      have Hend := hid (Hbw.out.trans ((Hb5.out.mono Hbw.out.size).trans (hb6.mono (Nat.le_trans Hbw.out.size Hb5.out.size))))
      go_wp2_with fail
      go_ret
      exact ⟨rfl, Hend.out⟩
end Go.Proofs.Ytihgmgpcdodknaa
/- TokensOwn: each law returns true for arguments of bulk at most 1048576 (the '..UptoSaid' statements), whatever the arguments. -/
namespace Go.Proofs.Ytihgmgpcdodknaa
open Go.ChangeShapes Go.WideShapes Go.ChangeAt Go.RowKit
open Go.ChangeMaps (setBlock shut_map_nil open_string shut_string keptBut_setBlock frozen?_setBlock heap_setBlock_same)

section
variable {H : Type} {enc : TypeId × Value → H}

set_option maxRecDepth 100000 in
theorem tokensOwn_step (W : World) (base : Nat) (args : Array Value) (ds gs : List (DataW H)) (before : List MemPlace) (hsh : W.ShapedOpen Try.prog) 
    (hval : ∀ (j : Nat) t v, Try.f7.params[j]? = some t → args[j]? = some v → Value.okWide Try.prog W .any base t v)
    (hW : DataW.Whole enc Try.prog Try.f7.params.toList Rows.tokensOwnSpec.vars false W args.toList ds gs before) (hk : Rows.uptoSmall H (ds ++ gs) = true) :
    Calls Try.prog 7 args W fun e W' => ∃ v, e = .returned v ∧ Rows.tokensOwnSpec.post enc Try.prog Try.f7 false true false false W args v W' := by
  have hW' := hW
  obtain ⟨p, q, hA0, hV, rfl, hfz, hnd⟩ := hW
  have hA : DataW.TrodAll enc Try.prog W 0 (fun _ => true) true Try.f7.params.toList args.toList ds p := hA0
  rw [Try.params7] at hA hval
  obtain ⟨v0, vs0, d0, ds0, p0, q0, hargs, rfl, rfl, h0, r0⟩ := trodAll_cons hA
  obtain ⟨rfl, rfl, rfl⟩ := trodAll_nil r0
  obtain rfl : args = #[v0] := by cases args; simp_all
  obtain ⟨rfl, rfl⟩ := trodVars_none hV
  obtain ⟨s0, rfl, rfl, rfl, ws0⟩ := open_string Try.underlying9 (hval 0 9 v0 rfl rfl) h0
  have hbk : Rows.uptoBulkAll _ ≤ 1048576 := of_decide_eq_true hk
  simp only [List.append_nil, Rows.uptoBulkAll, Rows.uptoBulk, len_data] at hbk
  refine (tokensOwn_any s0 W (by omega) (maxAt_of hsh)).mono fun e W' ⟨he, hb⟩ => ?_
  subst he
  exact ⟨_, rfl, law_post laidOut (tb := 4) (by kernel_rfl) Try.underlying4 (of_decide_eq_true (by kernel_rfl)) rfl rfl hW' hb⟩
end

set_option maxRecDepth 100000 in
theorem tokensOwn_lifted (os : Os) (started : os.Started) (H : Type) (enc : TypeId × Value → H) (F : Stop.Interp) :
    ReturnsInHanded {} Try.checked os 7 .any ((Rows.OpenSpec.upto Rows.tokensOwnSpec).pre6 enc Try.prog Try.f7 Rows.tokensOwnUptoRow.domain false) (((Rows.OpenSpec.upto Rows.tokensOwnSpec).at F).post enc Try.prog Try.f7 false true false false) := by
  refine lift_shaped (C := Try.checked) (s := Rows.OpenSpec.upto Rows.tokensOwnSpec) (k := Rows.uptoSmall) rfl own started (by kernel_rfl) Try.func7
    (OpenSpec.witness (enc := enc) (C := Try.checked) (s := Rows.OpenSpec.upto Rows.tokensOwnSpec) (k := Rows.uptoSmall) rfl false ⟨#[], #[.string ⟨#[]⟩], []⟩ 8 (by kernel_rfl) (by kernel_rfl) (by kernel_rfl)
      (x := ([.lit (.string [])], [], [])) (by kernel_rfl) rfl (by kernel_rfl)) ?_
  intro W base args ds gs before hsh hval hW hk
  exact tokensOwn_step W base args ds gs before hsh hval hW hk

theorem TokensOwn_holds : Rows.TokensOwnUptoSaid :=
  OpenClaim.holds_of_cond 7 Try.f7 rfl rfl rfl rfl rfl rfl rfl ⟨rfl, rfl, rfl, rfl, rfl⟩ rfl rfl rfl rfl rfl (by kernel_rfl) Try.func7 (by kernel_rfl)
    (of_decide_eq_true (by kernel_rfl)) (by unfold Func.isWrapper; first | (rw [if_pos (by decide +kernel)]; kernel_rfl) | (rw [if_neg (by decide +kernel)]; exact ⟨rfl, rfl⟩))
    (fun os started H enc _ F => tokensOwn_lifted os started H enc F)

#print axioms TokensOwn_holds
end Go.Proofs.Ytihgmgpcdodknaa
