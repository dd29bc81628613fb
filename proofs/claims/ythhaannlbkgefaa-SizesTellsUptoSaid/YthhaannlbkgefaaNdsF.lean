/- sizes.Flat. -/
import Derived.Test.YthhaannlbkgefaaNdsT
import Derived.Deep.QuietTactic
import Derived.BigQuiet
set_option linter.unusedVariables false
namespace Go.Proofs.Ythhaannlbkgefaa
open Go.RowKit

def flatK (k : Int) : Bool := decide (k = 1) || decide (k = 2) || decide (k = 7)
def Nd.kind : Nd → Int
  | .mk k _ _ _ => k
set_option maxHeartbeats 800000 in
theorem flat1_any (k : Int) (x nm : ByteArray) (Ap : Option Addr) (np cp : Nat) (Ab : Option Addr) (nb cb : Nat) (Ae : Option Addr) (ne ce : Nat) (v6 v7 v8 : Int) (w : World) :
    Calls Try.prog 17 #[.agg #[.int .i64 k, .string x, .string nm, .slice Ap np cp, .slice Ab nb cb, .slice Ae ne ce, .int .i64 v6, .int .i64 v7, .int .i64 v8]] w fun e w' => e = .returned (.bool (!flatK k)) ∧ Below w.heap.size w w' := by
  have hb : Below w.heap.size w (w.alloc (.cells #[.int .i64 k, .string x, .string nm, .slice Ap np cp, .slice Ab nb cb, .slice Ae ne ce, .int .i64 v6, .int .i64 v7, .int .i64 v8] 41)) := (Below.refl _ _).alloc (Nat.le_refl _) _
  by_cases h1 : k = 1
  · subst h1
    go_enter Try.func17, Try.ntmps17
    go_wp2
    go_ret
    exact ⟨by simp [flatK], hb⟩
  · have b1 : (k == 1) = false := beq_eq_false_iff_ne.2 h1
    by_cases h2 : k = 2
    · subst h2
      go_enter Try.func17, Try.ntmps17
      go_wp2
      go_ret
      exact ⟨by simp [flatK], hb⟩
    · have b2 : (k == 2) = false := beq_eq_false_iff_ne.2 h2
      by_cases h7 : k = 7
      · subst h7
        go_enter Try.func17, Try.ntmps17
        go_wp2
        go_ret
        exact ⟨by simp [flatK], hb⟩
      · have b7 : (k == 7) = false := beq_eq_false_iff_ne.2 h7
        go_enter Try.func17, Try.ntmps17
        go_wp2
        go_ret
        exact ⟨by simp [flatK, h1, h2, h7], hb⟩

def flatL (l : List Nd) : Bool := l.all fun n => flatK n.kind
set_option maxRecDepth 100000 in
set_option maxHeartbeats 1600000 in
theorem index_any (l : List Nd) (hm : ndsNum l ≤ 1048576) (A : Option Addr) (cap : Nat) (w : World) (B : Nat) (hR : NdsAt w B A 0 l) (hB : B ≤ w.heap.size) :
    Calls Try.prog 18 #[.slice A l.length cap, .func (.func 17) #[] #[]] w fun e w' => (∃ r : Int, e = .returned (.int .i64 r) ∧ decide (0 ≤ r) = !flatL l ∧ -1 ≤ r ∧ r ≤ 1048576) ∧ Below w.heap.size w w' := by
  have hlen := ndsNum_len l
  have HR := hid hR
  clear hR
  obtain ⟨n, hnn⟩ : ∃ n, l.length = n := ⟨_, rfl⟩
  have Hn := hid hnn
  have hnb : n ≤ 1048576 := by omega
  rw [hnn]
  clear hnn hlen
  go_enter Try.func18, Try.ntmps18
  go_wp2
  go_loopw [8] (fun i wr => ∃ k : Nat, k ≤ n ∧ i = .int .i64 k ∧ Hid (flatL (l.take k) = true) ∧ Below w.heap.size w wr) (fun i _ => n - (intOf i).toNat)
  case atStart => exact ⟨0, Nat.zero_le _, rfl, hid (by rw [List.take_zero]; rfl), Below.refl _ _⟩
  case round =>
    obtain ⟨k, hk, rfl, hfl, hbw⟩ := hrel
    by_cases hlt : k < n
    · have hkl : k < l.length := by rw [Hn.out]; exact hlt
      obtain ⟨ad, rfl, hnd⟩ := NdsAt.at_ l 0 k hkl (NdsAt.keep (w' := wr) (fun p hp => (hbw.mono hB).cell hp) l A 0 HR.out)
      rw [Nat.zero_add] at hnd
      have htk : flatL (l.take (k + 1)) = (flatL (l.take k) && flatK l[k].kind) := by
        unfold flatL
        rw [List.take_succ_eq_append_getElem hkl, List.all_append]
        simp
      have hbad : flatK l[k].kind = false → flatL l = false := by
        intro h
        cases hc : flatL l with
        | false => rfl
        | true =>
          unfold flatL at hc
          have := List.all_eq_true.1 hc l[k] (List.getElem_mem _)
          rw [h] at this; cases this
      rw [hfl.out, Bool.true_and] at htk
      obtain ⟨p, hp⟩ : ∃ p, l[k] = p := ⟨_, rfl⟩
      rw [hp] at hnd htk hbad
      obtain ⟨kd, x, b, e⟩ := p
      unfold NdAt at hnd
      obtain ⟨h0, c0, c1, nm, Ap, np, cp, Ab, cb, Ae, ce, v6, v7, v8, c2, c3, c4, c5, c6, c7, c8, hb, he⟩ := hnd
      obtain ⟨nb, hnb'⟩ : ∃ nb, b.length = nb := ⟨_, rfl⟩
      obtain ⟨ne, hne'⟩ : ∃ ne, e.length = ne := ⟨_, rfl⟩
      rw [hnb'] at c4
      rw [hne'] at c5
      simp only [Nd.kind] at htk hbad
      have Hf := hid (fun W => flat1_any kd x nm Ap np cp Ab nb cb Ae ne ce v6 v7 v8 W)
      obtain ⟨q, hq⟩ : ∃ q, flatK kd = q := ⟨_, rfl⟩
      rw [hq] at Hf htk hbad
      have HT := hid htk
      have HBad := hid hbad
      clear hnb' hne' hp hkl hb he hq htk hbad h0
      cases q with
      | true =>
        go_wp2_with fail
        refine (Hf.out _).mono ?_
        rintro e' w' ⟨rfl, hb'⟩
        go_wp2
        go_roundw
        case rel => exact ⟨k + 1, by omega, by go_num, hid HT.out, hbw.trans (hb'.mono hbw.size)⟩
        case measure => simp [intOf]; omega
      | false =>
        go_wp2_with fail
        refine (Hf.out _).mono ?_
        rintro e' w' ⟨rfl, hb'⟩
        go_wp2
        go_ret
        exact ⟨⟨_, rfl, by rw [HBad.out (by trivial)]; simp, by omega, by omega⟩, hbw.trans (hb'.mono hbw.size)⟩
    · obtain rfl : k = n := by omega
      have hall : Hid (flatL l = true) := hid (by have := hfl.out; rwa [List.take_of_length_le (by rw [Hn.out]; exact Nat.le_refl _)] at this)
      go_wp2
      go_ret
      exact ⟨⟨_, rfl, by rw [hall.out]; simp, by omega, by omega⟩, hbw⟩
theorem contains_any (l : List Nd) (hm : ndsNum l ≤ 1048576) (A : Option Addr) (cap : Nat) (w : World) (B : Nat) (hR : NdsAt w B A 0 l) (hB : B ≤ w.heap.size) :
    Calls Try.prog 16 #[.slice A l.length cap, .func (.func 17) #[] #[]] w fun e w' => e = .returned (.bool (!flatL l)) ∧ Below w.heap.size w w' := by
  have HI := hid (index_any l hm A cap w B hR hB)
  clear hR
  generalize l.length = n at HI ⊢
  generalize flatL l = q at HI ⊢
  cases q
  all_goals
    go_enter Try.func16, Try.ntmps16
    go_wp2_with fail
    refine HI.out.mono ?_
    rintro e w1 ⟨⟨r, rfl, hr, hr1, hr2⟩, hb⟩
    simp only [Bool.not_false, Bool.not_true, decide_eq_true_eq, decide_eq_false_iff_not] at hr
    go_wp2
    go_ret
    exact ⟨by first | rfl | simp [hr] | (simp; omega), hb⟩
theorem flat_any (l : List Nd) (hm : ndsNum l ≤ 1048576) (A : Option Addr) (cap : Nat) (w : World) (B : Nat) (hR : NdsAt w B A 0 l) (hB : B ≤ w.heap.size) :
    Calls Try.prog 13 #[.slice A l.length cap] w fun e w' => e = .returned (.bool (flatL l)) ∧ Below w.heap.size w w' := by
  have HI := hid (contains_any l hm A cap w B hR hB)
  clear hR
  generalize l.length = n at HI ⊢
  generalize flatL l = q at HI ⊢
  go_enter Try.func13, Try.ntmps13
  go_wp2_with fail
  refine HI.out.mono ?_
  rintro e w1 ⟨rfl, hb⟩
  go_wp2
  go_ret
  exact ⟨by first | rfl | simp, hb⟩
end Go.Proofs.Ythhaannlbkgefaa
