import Derived.Test.YtkcnmjdomipbjaaGreatS16
import Derived.Test.YtkcnmjdomipbjaaGreatS18
set_option linter.unusedVariables false
set_option maxHeartbeats 100000000
set_option maxRecDepth 100000
namespace Go.Proofs.YtkcnmjdomipbjaaGreat
open Go.RowKit
theorem coded_any (s : ByteArray) (a : Nat) (w : World) (hs : s.size <= 1099511627770) (ha : a < s.size) : Calls Tryz.prog 129 #[.string s, .int .i64 (a : Int)] w (PB w) := by
 obtain ⟨n, hn, h0, h1⟩ := u8b s a ha
 have hai : (a : Int) < (s.size : Int) := by omega
 have hw1 : IntKind.i64.wrap ((a : Int) + 1) = ((a + 1 : Nat) : Int) := IntWalk.i64_in _ (by omega)
 have HR := hid (fun W => run_any s (a + 1) true W (by omega) (by omega))
 generalize runL s.data.toList (a + 1) true = r at HR
 obtain ⟨a1, ha1⟩ := xE (a + 1)
 rw [ha1] at hw1 HR
 go_enter Tryz.func129, Tryz.ntmps129
 go_wp2_with (go_at_call 139; refine (HR.out _).mono ?_; rintro e w1 ⟨rfl, rfl⟩)
 all_goals (go_ret; exact ⟨_, rfl, rfl⟩)
theorem percent_any (s : ByteArray) (q : Bool) (w : World) (hs : s.size <= 4294967296) : Calls Tryz.prog 109 #[.string s, .bool q] w (PS (12 * s.size) w) := by
 have HR := hid (refRepair_any s w (by omega))
 have hRL := repairL_len s
 have Hu := hid (fun n h0 h1 W => unreserved_any n h0 h1 W)
 have Hv := hid (fun n h0 h1 W => reserved_any n h0 h1 W)
 have Hx := hid (fun n W => hexS_any n 2 (by decide) W)
 cases q
 all_goals
  go_enter Tryz.func109, Tryz.ntmps109;go_wp2_with (go_at_call 105; refine HR.out.mono ?_; rintro e w1 ⟨t, rfl, ht, hb1⟩; have htz : t.size <= 4 * s.size := (by rw [<- len_data, ht.out]; exact hRL); have Hcd := hid (fun a W ha => coded_any t a W (by omega) ha))
  clear hRL;go_loopw [6, 7] (fun b i wr => ∃ (k : Nat) (l : List UInt8), i = .int .i64 (k : Int) /\ k <= t.size /\ l.length <= 3 * k /\ Hid (OwnB wr w1.heap.size b l) /\ Below w1.heap.size w1 wr) (fun _ i _ => t.size - (intOf i).toNat)
  case atStart => exact ⟨0, [], rfl, Nat.zero_le _, by simp, hid (OwnB.nil _ _), Below.refl _ _⟩
  obtain ⟨k, l, rfl, hk, hl, hO, hb⟩ := hrel;have hz := hb.size;by_cases hlt : k < t.size
  ·obtain ⟨n, hn, h0, h1⟩ := u8b t k hlt;have HU := hid (fun W => Hu.out n h0 h1 W);have HV := hid (fun W => Hv.out n h0 h1 W);have HC := hid (fun W => Hcd.out k W hlt)
   go_wp2_with (first
    | (go_at_call 127; refine (HU.out _).mono ?_; rintro e w2 ⟨b1, rfl, hw⟩; obtain rfl := hw)
    | (go_at_call 128; refine (HV.out _).mono ?_; rintro e w2 ⟨b2, rfl, hw⟩; obtain rfl := hw)
    | (go_at_call 129; refine (HC.out _).mono ?_; rintro e w2 ⟨b3, rfl, hw⟩; obtain rfl := hw)
    | (go_at_call 130; refine (Hx.out _ _).mono ?_; rintro e w3 ⟨x, rfl, hx, hw⟩; obtain rfl := hw)
    | (at_builtin; refine wpl_push1 rfl _ _ rfl w1.heap.size _ l _ _ hO.out rfl rfl (by omega) (by omega) (by omega) (by omega) ?_; intro v1 w4 hO1 hb4; obtain ⟨l1, hl1, HO1⟩ : ∃ l1, l1.length = l.length + 1 /\ Hid (OwnB w4 w1.heap.size v1 l1) := ⟨_, by rw [List.length_append, List.length_singleton], hid hO1⟩; clear hO1)
    | (at_builtin; refine wpl_pushs1 rfl _ _ rfl w1.heap.size _ _ _ HO1.out rfl x rfl (by omega) (Nat.le_trans hz hb4.size) ?_; intro v2 w5 hO2 hb5; have HO2 := hid hO2; clear hO2))
   all_goals first
    | (go_roundw
       case rel => exact ⟨k + 1, _, by go_num, by omega, by rw [List.length_append, hl1, len_data]; omega, HO2, hb.trans (hb4.trans hb5)⟩
       simp [intOf]; omega)
    | (go_roundw
       case rel => exact ⟨k + 1, _, by go_num, by omega, by omega, HO1, hb.trans hb4⟩
       simp [intOf]; omega)
  obtain rfl : k = t.size := by omega
  have hcv := hO.out.back;go_wp2
  go_ret;exact ⟨_, rfl, back_size hl (by omega), hb1.trans (hb.mono hb1.size)⟩
end Go.Proofs.YtkcnmjdomipbjaaGreat
