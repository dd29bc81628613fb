/- Contracts of package muslinref01: size, Encode, Decode. -/
import Derived.Test.YtihgmgpcdodknaaDoorBuf
import Derived.Test.YtihgmgpcdodknaaDoorUtf
import Derived.Test.YtihgmgpcdodknaaDoorTokP
set_option linter.unusedVariables false
namespace Go.Proofs.YtihgmgpcdodknaaDoor
open Go.RowKit

/-- 'string([]byte{..})' -/
theorem conv_row {P : Program} (cells : Array Value) (l : List UInt8) (W : World) (src dst e : TypeId) (hs : P.underlying src = some (.slice e)) (he : P.underlying e = some (.int .u8)) (hd : P.underlying dst = some .string) (n : Nat) (hn : n = l.length) (hc : ∀ j (h : j < l.length), cells[j]? = some (.int .u8 (l[j].toNat : Int))) :
    (convert src dst (.slice (some ⟨W.heap.size, 0, none⟩) n n)).run P (W.alloc (.cells cells e)) = .ok (.string ⟨l.toArray⟩) (W.alloc (.cells cells e)) := by
  have h : BytesIn (W.alloc (.cells cells e)) W.heap.size l := fun j hj => by
    rw [World.cell?_alloc_mark]; exact hc j hj
  exact h.back n src dst e hs he hd n hn
theorem at_bOf {n : Int} (h0 : 0 ≤ n) (h1 : n ≤ 255) : some (Value.int .u8 n) = some (.int .u8 ((bOf n).toNat : Int)) := by rw [bOf_toNat n h0 h1]

set_option maxHeartbeats 400000 in
theorem refSize_any (n : Int) (h0 : 0 ≤ n) (h1 : n ≤ 255) (w : World) : Calls Tryd.prog 61 #[.int .u8 n] w fun e w' => e = .returned (.int .i64 (szI n)) ∧ w = w' := by
  go_enter Tryd.func61, Tryd.ntmps61
  go_wp2
  all_goals go_ret
  all_goals (refine ⟨ret_int ?_, rfl⟩; unfold szI; repeat' split; all_goals omega)

set_option maxRecDepth 100000 in
set_option maxHeartbeats 800000 in
theorem refEncode_any (c : Int) (hc0 : -9223372036854775808 ≤ c) (hc1 : c ≤ 9223372036854775807) (w : World) :
    Calls Tryd.prog 26 #[.int .i64 c] w (RStrInt w (encL c) (encE c)) := by
  have hok := hid (encOk_valid c)
  by_cases hb : c < 0 ∨ c > 1114111 ∨ (55296 ≤ c ∧ c ≤ 57343)
  · have e : encOk c = false := decide_eq_false (by omega)
    have E1 := hid (show encL c = [] by unfold encL; rw [e]; rfl)
    have E2 := hid (show encE c = 4 by unfold encE; rw [e]; rfl)
    go_enter Tryd.func26, Tryd.ntmps26
    go_wp2
    all_goals go_ret2
    all_goals exact ⟨_, _, rfl, hid E1.out.symm, hid E2.out.symm, Below.refl _ _⟩
  · have e : encOk c = true := decide_eq_true (by omega)
    have E1 := hid (show encL c = (Lib.encodeRuneZ c).map bOf by unfold encL; rw [e]; rfl)
    have E2 := hid (show encE c = 0 by unfold encE; rw [e]; rfl)
    obtain ⟨k, rfl⟩ : ∃ k : Nat, c = (k : Int) := ⟨c.toNat, by omega⟩
    have hk : k ≤ 1114111 := by omega
    by_cases h1 : k < 128
    · rw [Lib.encodeRuneZ_one (by omega) (by omega)] at E1
      have kc := fun (W : World) => conv_row (P := Tryd.prog) #[.int .u8 (k : Int)] [bOf (k : Int)] W 49 9 5 Tryd.underlying49 Tryd.underlying5 Tryd.underlying9 1 rfl (fun j hj => by
        match j, hj with
        | 0, _ => exact at_bOf (by omega) (by omega)
        | j + 1, hj => exact absurd hj (by simp))
      go_enter Tryd.func26, Tryd.ntmps26
      go_wp2
      go_ret2
      exact ⟨_, _, rfl, hid E1.out.symm, hid E2.out.symm, by go_grown⟩
    by_cases h2 : k < 2048
    · rw [Lib.encodeRuneZ_two (by omega) (by omega)] at E1
      have kc := fun (W : World) => conv_row (P := Tryd.prog) #[.int .u8 (192 + (k : Int) / 64), .int .u8 (128 + (k : Int) % 64)] [bOf (192 + (k : Int) / 64), bOf (128 + (k : Int) % 64)] W 49 9 5 Tryd.underlying49 Tryd.underlying5 Tryd.underlying9 2 rfl (fun j hj => by
        match j, hj with
        | 0, _ => exact at_bOf (by omega) (by omega)
        | 1, _ => exact at_bOf (by omega) (by omega)
        | j + 2, hj => exact absurd hj (by simp))
      go_enter Tryd.func26, Tryd.ntmps26
      go_wp2
      go_ret2
      exact ⟨_, _, rfl, hid E1.out.symm, hid E2.out.symm, by go_grown⟩
    obtain ⟨c, hc⟩ : ∃ c : Int, (k : Int) = c := ⟨_, rfl⟩
    rw [hc] at E1 E2 hb ⊢
    have hk0 : 2048 ≤ c := by omega
    have hk1 : c ≤ 1114111 := by omega
    obtain ⟨x, hx⟩ : ∃ x, c % 64 = x := ⟨_, rfl⟩
    obtain ⟨d, hd⟩ : ∃ d, c / 64 = d := ⟨_, rfl⟩
    obtain ⟨y, hy⟩ : ∃ y, d % 64 = y := ⟨_, rfl⟩
    by_cases h3 : c < 65536
    · rw [Lib.encodeRuneZ_three (by omega)] at E1
      obtain ⟨z, hz⟩ : ∃ z, c / 4096 = z := ⟨_, rfl⟩
      rw [hz, hd, hy, hx] at E1
      have hx1 : 0 ≤ x ∧ x < 64 := by omega
      have hy1 : 0 ≤ y ∧ y < 64 := by omega
      have hz1 : 0 ≤ z ∧ z < 16 := by omega
      have hd1 : 0 ≤ d ∧ d < 1024 := by omega
      have kc := fun (W : World) => conv_row (P := Tryd.prog) #[.int .u8 (224 + z), .int .u8 (128 + y), .int .u8 (128 + x)] [bOf (224 + z), bOf (128 + y), bOf (128 + x)] W 49 9 5 Tryd.underlying49 Tryd.underlying5 Tryd.underlying9 3 rfl (fun j hj => by
        match j, hj with
        | 0, _ => exact at_bOf (by omega) (by omega)
        | 1, _ => exact at_bOf (by omega) (by omega)
        | 2, _ => exact at_bOf (by omega) (by omega)
        | j + 3, hj => exact absurd hj (by simp))
      rcases (show c < 55296 ∨ 57343 < c by omega) with h4 | h4
      · clear hb e hok hc0 hc1 h1 h2 hk hc k
        go_enter Tryd.func26, Tryd.ntmps26
        go_wp2
        go_ret2
        exact ⟨_, _, rfl, hid E1.out.symm, hid E2.out.symm, by go_grown⟩
      · clear hb e hok hc0 hc1 h1 h2 hk hc k
        go_enter Tryd.func26, Tryd.ntmps26
        go_wp2
        go_ret2
        exact ⟨_, _, rfl, hid E1.out.symm, hid E2.out.symm, by go_grown⟩
    rw [Lib.encodeRuneZ_four (by omega) (by omega)] at E1
    obtain ⟨z, hz⟩ : ∃ z, c / 262144 = z := ⟨_, rfl⟩
    obtain ⟨v, hv⟩ : ∃ v, c / 4096 = v := ⟨_, rfl⟩
    obtain ⟨u, hu⟩ : ∃ u, v % 64 = u := ⟨_, rfl⟩
    rw [hz, hv, hu, hd, hy, hx] at E1
    have hx1 : 0 ≤ x ∧ x < 64 := by omega
    have hy1 : 0 ≤ y ∧ y < 64 := by omega
    have hz1 : 0 ≤ z ∧ z < 5 := by omega
    have hu1 : 0 ≤ u ∧ u < 64 := by omega
    have hd1 : 0 ≤ d ∧ d < 20000 := by omega
    have hv1 : 0 ≤ v ∧ v < 300 := by omega
    have kc := fun (W : World) => conv_row (P := Tryd.prog) #[.int .u8 (240 + z), .int .u8 (128 + u), .int .u8 (128 + y), .int .u8 (128 + x)] [bOf (240 + z), bOf (128 + u), bOf (128 + y), bOf (128 + x)] W 49 9 5 Tryd.underlying49 Tryd.underlying5 Tryd.underlying9 4 rfl (fun j hj => by
      match j, hj with
      | 0, _ => exact at_bOf (by omega) (by omega)
      | 1, _ => exact at_bOf (by omega) (by omega)
      | 2, _ => exact at_bOf (by omega) (by omega)
      | 3, _ => exact at_bOf (by omega) (by omega)
      | j + 4, hj => exact absurd hj (by simp))
    clear hb e hok hc0 hc1 h1 h2 hk hc k
    go_enter Tryd.func26, Tryd.ntmps26
    go_wp2
    go_ret2
    exact ⟨_, _, rfl, hid E1.out.symm, hid E2.out.symm, by go_grown⟩
end Go.Proofs.YtihgmgpcdodknaaDoor
