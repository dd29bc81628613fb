/- SizesTells: each law returns true for arguments of bulk at most 1048576 (the '..UptoSaid' statements), whatever the arguments. -/
import Derived.Test.YthhaannlbkgefaaTel
import Derived.Test.YthhaannlbkgefaaNdsO
import Derived.Test.YthhaannlbkgefaaUnsO
import Derived.Test.YthhaannlbkgefaaLaw
import Derived.OpenShut
set_option linter.unusedVariables false
namespace Go.Proofs.Ythhaannlbkgefaa
open Go.ChangeShapes Go.WideShapes Go.ChangeAt Go.RowKit
open Go.ChangeMaps (setBlock shut_map_nil open_string shut_string keptBut_setBlock frozen?_setBlock heap_setBlock_same)

section
variable {H : Type} {enc : TypeId × Value → H}

theorem sizesTells_step (W : World) (base : Nat) (args : Array Value) (ds gs : List (DataW H)) (before : List MemPlace) 
    (hval : ∀ (j : Nat) t v, Try.f5.params[j]? = some t → args[j]? = some v → Value.okWide Try.prog W .any base t v)
    (hW : DataW.Whole enc Try.prog Try.f5.params.toList Rows.sizesTellsSpec.vars false W args.toList ds gs before) (hk : Rows.uptoSmall H (ds ++ gs) = true) :
    Calls Try.prog 5 args W fun e W' => ∃ v, e = .returned v ∧ Rows.sizesTellsSpec.post enc Try.prog Try.f5 false true false false W args v W' := by
  have hW' := hW
  obtain ⟨p, q, hA0, hV, rfl, hfz, hnd⟩ := hW
  have hA : DataW.TrodAll enc Try.prog W 0 (fun _ => true) true Try.f5.params.toList args.toList ds p := hA0
  rw [Try.params5] at hA hval
  obtain ⟨v0, vs0, d0, ds0, p0, q0, hargs, rfl, rfl, h0, r0⟩ := trodAll_cons hA
  obtain ⟨v1, vs1, d1, ds1, p1, q1, rfl, rfl, rfl, h1, r1⟩ := trodAll_cons r0
  obtain ⟨rfl, rfl, rfl⟩ := trodAll_nil r1
  obtain rfl : args = #[v0, v1] := by cases args; simp_all
  obtain ⟨rfl, rfl⟩ := trodVars_none hV
  obtain ⟨A0, n0, c0, l0, rfl, hn0, hl0⟩ := open_nds (hval 0 22 v0 rfl rfl) h0
  subst hn0
  obtain ⟨A1, n1, c1, l1, rfl, hn1, hl1⟩ := open_uns (hval 1 31 v1 rfl rfl) h1
  subst hn1
  have hbk : Rows.uptoBulkAll _ ≤ 1048576 := of_decide_eq_true hk
  simp only [List.append_nil, Rows.uptoBulkAll] at hbk
  have q0 := hl0 (by omega)
  have q1 := hl1 (by omega)
  refine (sizesTells_any A0 A1 c0 c1 l0 l1 W (by omega) (by omega) (by omega) (by omega) (by omega) (by omega) (by omega) q0.1 q1.1).mono fun e W' ⟨he, hb⟩ => ?_
  subst he
  exact ⟨_, rfl, law_post laidOut (tb := 4) (by kernel_rfl) Try.underlying4 (of_decide_eq_true (by kernel_rfl)) rfl rfl hW' hb⟩
end

set_option maxRecDepth 100000 in
theorem sizesTells_lifted (os : Os) (started : os.Started) (H : Type) (enc : TypeId × Value → H) (F : Stop.Interp) :
    ReturnsInHanded {} Try.checked os 5 .any ((Rows.OpenSpec.upto Rows.sizesTellsSpec).pre6 enc Try.prog Try.f5 Rows.sizesTellsUptoRow.domain false) (((Rows.OpenSpec.upto Rows.sizesTellsSpec).at F).post enc Try.prog Try.f5 false true false false) := by
  refine returnsInHanded_of_cond (C := Try.checked) (s := Rows.OpenSpec.upto Rows.sizesTellsSpec) (k := Rows.uptoSmall) rfl own started (by kernel_rfl) Try.func5
    (OpenSpec.witness (enc := enc) (C := Try.checked) (s := Rows.OpenSpec.upto Rows.sizesTellsSpec) (k := Rows.uptoSmall) rfl false ⟨#[], #[.slice none 0 0, .slice none 0 0], []⟩ 8 (by kernel_rfl) (by kernel_rfl) (by kernel_rfl)
      (x := ([.nil, .nil], [], [])) (by kernel_rfl) rfl (by kernel_rfl)) ?_
  intro W base args ds gs before hval hW _ hk _
  exact sizesTells_step W base args ds gs before hval hW hk

theorem SizesTells_holds : Rows.SizesTellsUptoSaid :=
  OpenClaim.holds_of_cond 5 Try.f5 rfl rfl rfl rfl rfl rfl rfl ⟨rfl, rfl, rfl, rfl, rfl⟩ rfl rfl rfl rfl rfl (by kernel_rfl) Try.func5 (by kernel_rfl)
    (of_decide_eq_true (by kernel_rfl)) (by unfold Func.isWrapper; first | (rw [if_pos (by decide +kernel)]; kernel_rfl) | (rw [if_neg (by decide +kernel)]; exact ⟨rfl, rfl⟩))
    (fun os started H enc _ F => sizesTells_lifted os started H enc F)

#print axioms SizesTells_holds
end Go.Proofs.Ythhaannlbkgefaa
