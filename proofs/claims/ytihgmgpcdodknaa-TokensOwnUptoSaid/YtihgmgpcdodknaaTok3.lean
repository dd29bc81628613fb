/- The reader's quoted. -/
import Derived.Test.YtihgmgpcdodknaaTok1
set_option linter.unusedVariables false
namespace Go.Proofs.Ytihgmgpcdodknaa
open Go.RowKit

theorem idx_lt (l : List UInt8) (c : UInt8) (i : Nat) (h : Lib.indexByte l c = (i : Int)) : i < l.length := by
  have := (Lib.indexByte_some h).1
  obtain ⟨h1, _⟩ := List.getElem?_eq_some_iff.1 this
  exact h1
theorem byteN (n : Int) : n.toNat.toUInt8 = bOf n := rfl

set_option maxRecDepth 100000 in
set_option maxHeartbeats 1600000 in
theorem quoted_no (base R : Nat) (s : ByteArray) (k : Nat) (V : Value) (L : List Tk) (n : Int) (w : World) (hs : s.size ≤ 65536) (hk : k ≤ s.size) (hi : Lib.indexByte (s.data.toList.drop k) (bOf n) < 0) (h : Rd w base R s k V L) :
    Calls Try.prog 92 #[.pointer (some ⟨R, 0, none⟩), .int .u8 n] w fun e w' => e = .returned (.tuple #[.string ⟨#[]⟩, .bool false]) ∧ Rd w' base R s k V L ∧ Fr R none none w w' := by
  have H := hid h
  have c0 := h.c0
  have c1 := h.c1
  have hk0 : (0 : Int) ≤ (k : Int) := by omega
  have hk1 : (k : Int) ≤ (s.size : Int) := by omega
  have Hix := hid (fun W => Try.strings_IndexByte (s.extract k s.size) n W)
  obtain ⟨i, hii⟩ : ∃ i, Lib.indexByte (s.data.toList.drop k) (bOf n) = i := ⟨_, rfl⟩
  have he : Lib.indexByte (s.extract k s.size).data.toList n.toNat.toUInt8 = i := by rw [data_extract, take_all]; exact hii
  rw [he] at Hix
  rw [hii] at hi
  clear h hii he
  go_enter Try.func92, Try.ntmps92
  go_wp2_with (go_quiet ((go_at_call 78; exact Calls.quiet_of_same (Hix.out _))))
  go_ret2
  exact ⟨rfl, rd_drewN H.out _, (Fr.refl _ _ _).drewN _⟩
set_option maxRecDepth 100000 in
set_option maxHeartbeats 1600000 in
theorem quoted_yes (base R : Nat) (s : ByteArray) (k : Nat) (V : Value) (L : List Tk) (n : Int) (i : Nat) (w : World) (hs : s.size ≤ 65536) (hk : k ≤ s.size) (hi : Lib.indexByte (s.data.toList.drop k) (bOf n) = (i : Int)) (h : Rd w base R s k V L) :
    Calls Try.prog 92 #[.pointer (some ⟨R, 0, none⟩), .int .u8 n] w fun e w' => ∃ y, e = .returned (.tuple #[.string y, .bool true]) ∧ Hid (y.data.toList = decL ((s.data.toList.drop k).take i)) ∧ Rd w' base R s (k + i + 1) V L ∧ Fr R none none w w' := by
  have H := hid h
  have c0 := h.c0
  have c1 := h.c1
  have f1 := h.fz 1
  have hlt := idx_lt _ _ _ hi
  rw [List.length_drop, len_data] at hlt
  have hk0 : (0 : Int) ≤ (k : Int) := by omega
  have hk1 : (k : Int) ≤ (s.size : Int) := by omega
  have hk2 : (0 : Int) ≤ (i : Int) := by omega
  have hk3 : (k : Int) + (i : Int) ≤ (s.size : Int) := by omega
  have hk4 : (k : Int) ≤ (k : Int) + (i : Int) := by omega
  have Hix := hid (fun W => Try.strings_IndexByte (s.extract k s.size) n W)
  have he : Lib.indexByte (s.extract k s.size).data.toList n.toNat.toUInt8 = (i : Int) := by rw [data_extract, take_all]; exact hi
  rw [he] at Hix
  have Hdec := hid (fun W => decode06_any (s.extract k (k + i)) W (by rw [ByteArray.size_extract]; omega))
  clear h he
  go_enter Try.func92, Try.ntmps92
  go_wp2_with (go_quiet ((go_at_call 78; exact Calls.quiet_of_same (Hix.out _))))
  refine (Hdec.out _).mono ?_
  rintro e w1 ⟨y, rfl, hy, hb⟩
  go_wp2
  go_ret2
  refine ⟨y, rfl, hid ?_, ((rd_drewN H.out _).atI (k + i + 1) (by omega)).keep hb, (((Fr.refl _ _ _).drewN _).trans (Fr.setR 1 _)).trans (Fr.of_below hb)⟩
  rw [hy.out, data_extract, List.drop_take]
  congr 2; omega
end Go.Proofs.Ytihgmgpcdodknaa
