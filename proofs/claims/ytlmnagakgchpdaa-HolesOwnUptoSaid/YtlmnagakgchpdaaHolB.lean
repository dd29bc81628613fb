/- HolesTells: what it returns. -/
import Derived.Test.YtlmnagakgchpdaaHolA
import Derived.Deep.QuietTactic
import Derived.BigQuiet
set_option linter.unusedVariables false
namespace Go.Proofs.Ytlmnagakgchpdaa
open Go.RowKit

theorem below_drewN {B : Nat} {w w' : World} (h : Below B w w') : ∀ n, Below B w (w'.drewN n)
  | 0 => h
  | n + 1 => (below_drewN h n).drew
theorem str_self (t : ByteArray) : (t.toList == t.toList) = true := by simp
theorem bytes_eq {a b : ByteArray} (h : a.data.toList = b.data.toList) : a = b := by
  cases a; cases b
  simp only [ByteArray.mk.injEq]
  exact Array.toList_inj.1 h
theorem extract_join (s : ByteArray) (a b : Nat) (h : a ≤ b) : s.extract 0 a ++ s.extract a b = s.extract 0 b := by
  refine bytes_eq ?_
  rw [data_append, data_extract, data_extract, data_extract, List.drop_zero, List.drop_zero]
  have : (s.data.toList.take b).take a = s.data.toList.take a := by rw [List.take_take, Nat.min_eq_left h]
  rw [← this, List.take_append_drop]
theorem extract_all (s : ByteArray) : s.extract 0 s.size = s := by
  refine bytes_eq ?_
  rw [data_extract, List.drop_zero]; exact take_all s

set_option maxHeartbeats 1600000 in
theorem may_any (s : ByteArray) (A : Option Addr) (cap : Nat) (hs : List Hol) (w : World) (hsz : s.size ≤ 1048576) (hn : hs.length ≤ 1048576) (hfit : ∀ h ∈ hs, h.fits) (B : Nat) (hR : HolsAt w B A hs) (hB : B ≤ w.heap.size) :
    Calls Try.prog 7 #[.string s, .slice A hs.length cap] w (RBool w (mayH s.size 0 hs)) := by
  have HR := hid hR
  have HF := hid hfit
  clear hR hfit
  obtain ⟨n, hnn⟩ : ∃ n, hs.length = n := ⟨_, rfl⟩
  have Hn := hid hnn
  rw [hnn] at hn ⊢
  clear hnn
  go_enter Try.func7, Try.ntmps7
  go_wp2
  go_loopw [5, 6] (fun a i wr => ∃ (k : Nat) (x : Int), k ≤ n ∧ i = .int .i64 k ∧ a = .int .i64 x ∧ -9223372036854775808 ≤ x ∧ x ≤ 9223372036854775807 ∧ Hid (mayH s.size 0 hs = mayH s.size x (hs.drop k)) ∧ Below w.heap.size w wr) (fun _ i _ => n - (intOf i).toNat)
  case atStart => exact ⟨0, 0, Nat.zero_le _, rfl, rfl, by omega, by omega, hid rfl, Below.refl _ _⟩
  case round =>
    obtain ⟨k, x, hk, rfl, rfl, hx0, hx1, hp, hb⟩ := hrel
    by_cases hlt : k < n
    · have hkl : k < hs.length := by rw [Hn.out]; exact hlt
      obtain ⟨ad, rfl, hbl, hc0, hc1, hc2, hc3⟩ := HolsAt.at_ (w := wr) (B := B) (A := A) (HR.out.below (hb.mono hB)) hkl
      obtain ⟨g, hg⟩ : ∃ g : Hol, hs[k] = g := ⟨_, rfl⟩
      have hgf : g.fits := HF.out g (by rw [← hg]; exact List.getElem_mem hkl)
      rw [hg] at hc0 hc1 hc2 hc3
      have Hd := hid (List.drop_eq_getElem_cons hkl)
      rw [hg] at Hd
      clear hg hkl hc2 hc3
      obtain ⟨f, t, e, y⟩ := g
      obtain ⟨g1, g2, g3, g4⟩ := hgf
      simp only at g1 g2 g3 g4 hc0 hc1
      have hk0 : (0 : Int) ≤ k := by omega
      by_cases h1 : f < x
      · have HM := hid (mayH_bad s.size x ⟨f, t, e, y⟩ (hs.drop (k + 1)) (.inl h1))
        go_wp2_with (go_quiet (fail))
        go_ret
        exact ⟨_, rfl, hid (by rw [hp.out, Hd.out, HM.out]), below_drewN hb _⟩
      · have h1b : decide (f < x) = false := decide_eq_false h1
        by_cases h2 : t < f
        · have HM := hid (mayH_bad s.size x ⟨f, t, e, y⟩ (hs.drop (k + 1)) (.inr (.inl h2)))
          go_wp2_with (go_quiet (fail))
          go_ret
          exact ⟨_, rfl, hid (by rw [hp.out, Hd.out, HM.out]), below_drewN hb _⟩
        · have h2b : decide (t < f) = false := decide_eq_false h2
          by_cases h3 : (s.size : Int) < t
          · have HM := hid (mayH_bad s.size x ⟨f, t, e, y⟩ (hs.drop (k + 1)) (.inr (.inr h3)))
            go_wp2_with (go_quiet (fail))
            go_ret
            exact ⟨_, rfl, hid (by rw [hp.out, Hd.out, HM.out]), below_drewN hb _⟩
          · have h3b : decide ((s.size : Int) < t) = false := decide_eq_false h3
            have HM := hid (mayH_good s.size x ⟨f, t, e, y⟩ (hs.drop (k + 1)) h1 h2 h3)
            go_wp2_with (go_quiet (fail))
            go_roundw
            case rel => exact ⟨k + 1, t, by omega, by go_num, rfl, g3, g4, hid (by rw [hp.out, Hd.out, HM.out]), below_drewN hb _⟩
            case measure => simp [intOf]; omega
    · obtain rfl : k = n := by omega
      go_wp2
      go_ret
      refine ⟨_, rfl, hid ?_, hb⟩
      rw [hp.out, List.drop_of_length_le (by rw [Hn.out]; exact Nat.le_refl _)]
      rfl

/-- texts of a known number -/
def RTxtN (w : World) (l : List ByteArray) (m : Nat) (n : Int) (e : Ending) (w' : World) : Prop := ∃ (A : Option Addr) (cap : Nat), e = .returned (.tuple #[.slice A m cap, .int .i64 n]) ∧ Hid (OwnS w' w.heap.size (.slice A m cap) l) ∧ Below w.heap.size w w'
theorem RTxt.known {w : World} {l : List ByteArray} {m : Nat} {n n' : Int} {e : Ending} {w' : World} (h : RTxt w l n e w') (hm : l.length = m) (hn : n = n') : RTxtN w l m n' e w' := by
  obtain ⟨A, cap, r, rfl, hr, hO, hb⟩ := h
  subst hm hn
  obtain rfl := hr.out
  exact ⟨A, cap, rfl, hO, hb⟩

def aHol : Hol := ⟨1, 2, 0, ⟨#[]⟩⟩
theorem aHol_reg : regH ⟨#[97, 98, 99]⟩ [aHol] = [⟨#[98]⟩] := by
  unfold regH
  rw [if_pos (by decide)]
  show [Hol.of _ _] = _
  rw [show Hol.of ⟨#[97, 98, 99]⟩ aHol = ⟨#[98]⟩ from bytes_eq (by decide)]
set_option maxHeartbeats 800000 in
theorem alive33_any (w : World) : Calls Try.prog 9 #[] w fun e w' => e = .returned (.bool true) ∧ Below w.heap.size w w' := by
  have hreg := fun (W : World) (h1 : HolsAt W W.heap.size (some ⟨w.heap.size, 0, none⟩) [aHol]) => (regions_any ⟨#[97, 98, 99]⟩ (some ⟨w.heap.size, 0, none⟩) 1 [aHol] W (by simp [ByteArray.size]) (by simp) (by intro h hh; obtain rfl := List.mem_singleton.1 hh; refine ⟨?_, ?_, ?_, ?_⟩ <;> decide) W.heap.size h1 (Nat.le_refl _)).mono fun e w' h => RTxt.known (m := 1) (n' := 0) h (by rw [aHol_reg]; rfl) (by decide)
  rw [aHol_reg] at hreg
  have Hreg := hid hreg
  clear hreg
  go_enter Try.func9, Try.ntmps9
  go_wp2_with fail
  refine (Hreg.out _ ?_).mono ?_
  · refine ⟨rfl, fun _ => ⟨_, rfl, by simp, fun j u hu => ?_⟩⟩
    have hj : j < 4 := by
      rcases Nat.lt_or_ge j 4 with h | h
      · exact h
      · rw [List.getElem?_eq_none (by simpa [holCells, Hol.cells] using h)] at hu; cases hu
    rw [Addr.add_lit, World.cell?_alloc_mark]
    match j, hj with
    | 0, _ => simpa [holCells, Hol.cells, aHol] using hu
    | 1, _ => simpa [holCells, Hol.cells, aHol] using hu
    | 2, _ => simpa [holCells, Hol.cells, aHol] using hu
    | 3, _ => simpa [holCells, Hol.cells, aHol] using hu
  rintro e w1 ⟨A, cap, rfl, hO, hb1⟩
  obtain ⟨g, rfl, hc⟩ := OwnS.cell hO.out (k := 0) (by simp)
  simp only [List.getElem_cons_zero] at hc
  go_wp2
  go_ret
  exact ⟨rfl, ((Below.refl _ _).alloc (Nat.le_refl _) _).trans (hb1.mono (by simp))⟩

theorem rstH_get (s : ByteArray) (hs : List Hol) (x : Int) (k : Nat) (L : List ByteArray) (h : (restH s 0 hs).drop k = restH s x (hs.drop k)) (f : ByteArray) (r : List ByteArray) (hr : restH s x (hs.drop k) = f :: r) (hm : mayH s.size 0 hs = true) (hk : k < (rstH s hs).length) : (rstH s hs)[k] = f := by
  have e : rstH s hs = restH s 0 hs := by unfold rstH; rw [hm]; rfl
  have h2 : (rstH s hs).drop k = f :: r := by rw [e, h, hr]
  rw [List.drop_eq_getElem_cons hk] at h2
  exact (List.cons.inj h2).1

set_option maxHeartbeats 3200000 in
theorem holesTells_any (s : ByteArray) (A : Option Addr) (cap : Nat) (hs : List Hol) (w : World) (hsz : s.size ≤ 1048576) (hn : hs.length ≤ 1048576) (hfit : ∀ h ∈ hs, h.fits) (hR : HolsAt w w.heap.size A hs) :
    Calls Try.prog 3 #[.string s, .slice A hs.length cap] w fun e w' => e = .returned (.bool true) ∧ Below w.heap.size w w' := by
  have HR := hid hR
  have HF := hid hfit
  obtain ⟨m, hm⟩ : ∃ m, mayH s.size 0 hs = m := ⟨_, rfl⟩
  have Hm := hid hm
  have hreg := fun (W : World) (hb : Below w.heap.size w W) => regions_any s A cap hs W hsz hn hfit w.heap.size (hR.below hb) hb.size
  have hrst := fun (W : World) (hb : Below w.heap.size w W) => rest_any s A cap hs W hsz hn hfit w.heap.size (hR.below hb) hb.size
  have hmay := fun (W : World) (hb : Below w.heap.size w W) => may_any s A cap hs W hsz hn hfit w.heap.size (hR.below hb) hb.size
  have hchk := fun (W : World) (hb : Below w.heap.size w W) => check_any s A cap hs W hsz hn hfit w.heap.size (hR.below hb) hb.size
  have Hreg := hid hreg
  have Hrst := hid hrst
  have Hmay := hid hmay
  have Hchk := hid hchk
  clear hR hfit hm hreg hrst hmay hchk
  obtain ⟨n, hnn⟩ : ∃ n, hs.length = n := ⟨_, rfl⟩
  have Hn := hid hnn
  rw [hnn] at hn ⊢ Hreg Hrst Hmay Hchk
  clear hnn
  cases m with
  | false =>
    have Hc : Hid (4 = chkR s.size hs) := hid (by unfold chkR; rw [Hm.out]; rfl)
    have Hr1 : Hid (regH s hs = []) := hid (by unfold regH; rw [Hm.out]; rfl)
    have Hr2 : Hid (rstH s hs = []) := hid (by unfold rstH; rw [Hm.out]; rfl)
    go_enter Try.func3, Try.ntmps3
    go_wp2_with fail
    refine ((Hreg.out _ (Below.refl _ _)).mono fun e w' h => RTxt.known (m := 0) (n' := 4) h (by rw [Hr1.out]; rfl) Hc.out.symm).mono ?_
    rintro e w1 ⟨A1, c1, rfl, hO1, hb1⟩
    go_wp2_with fail
    refine ((Hrst.out _ hb1).mono fun e w' h => RTxt.known (m := 0) (n' := 4) h (by rw [Hr2.out]; rfl) Hc.out.symm).mono ?_
    rintro e w2 ⟨A2, c2, rfl, hO2, hb2⟩
    have hbb2 := then_ hb1 hb2
    go_wp2_with fail
    refine (Hmay.out _ hbb2).mono ?_
    rintro e w3 ⟨b, rfl, hb, hb3⟩
    have hbb3 := then_ hbb2 hb3
    obtain rfl : b = false := by rw [hb.out, Hm.out]
    go_wp2_with fail
    refine (Hchk.out _ hbb3).mono ?_
    rintro e w4 ⟨r, rfl, hr, hb4⟩
    have hbb4 := then_ hbb3 hb4
    obtain rfl : r = 4 := by rw [hr.out, Hc.out]
    go_wp2_with fail
    refine (alive33_any _).mono ?_
    rintro e w5 ⟨rfl, hb5⟩
    go_wp2
    go_ret
    exact ⟨rfl, then_ hbb4 hb5⟩
  | true =>
    have Hc : Hid (0 = chkR s.size hs) := hid (by unfold chkR; rw [Hm.out]; rfl)
    have Hr1 : Hid (regH s hs = hs.map (·.of s)) := hid (by unfold regH; rw [Hm.out]; rfl)
    have Hl1 : Hid ((regH s hs).length = n) := hid (by rw [Hr1.out, List.length_map, Hn.out])
    have Hl2 : Hid ((rstH s hs).length = n + 1) := hid (by unfold rstH; rw [Hm.out]; show (restH s 0 hs).length = _; rw [restH_len, Hn.out])
    go_enter Try.func3, Try.ntmps3
    go_wp2_with fail
    refine ((Hreg.out _ (Below.refl _ _)).mono fun e w' h => RTxt.known (m := n) (n' := 0) h Hl1.out Hc.out.symm).mono ?_
    rintro e w1 ⟨A1, c1, rfl, hO1, hb1⟩
    go_wp2_with fail
    refine ((Hrst.out _ hb1).mono fun e w' h => RTxt.known (m := n + 1) (n' := 0) h Hl2.out Hc.out.symm).mono ?_
    rintro e w2 ⟨A2, c2, rfl, hO2, hb2⟩
    have hbb2 := then_ hb1 hb2
    go_wp2_with fail
    refine (Hmay.out _ hbb2).mono ?_
    rintro e w3 ⟨b, rfl, hb, hb3⟩
    have hbb3 := then_ hbb2 hb3
    obtain rfl : b = true := by rw [hb.out, Hm.out]
    go_wp2_with fail
    refine (Hchk.out _ hbb3).mono ?_
    rintro e w4 ⟨r, rfl, hr, hb4⟩
    have hbb4 := then_ hbb3 hb4
    obtain rfl : r = 0 := by rw [hr.out, Hc.out]
    have HO1 := hid (((hO1.out.keep hb2).keep hb3).keep hb4)
    have HO2 := hid ((hO2.out.keep hb3).keep hb4)
    clear hO1 hO2
    go_wp2
    go_loopw [9, 10] (fun T i wr => ∃ (k : Nat) (x : Int) (t : ByteArray), k ≤ n ∧ i = .int .i64 k ∧ T = .string t ∧ 0 ≤ x ∧ x ≤ s.size ∧ t.size ≤ 1048576 ∧ Hid (t = s.extract 0 x.toNat) ∧ Hid (mayH s.size x (hs.drop k) = true) ∧ Hid ((restH s 0 hs).drop k = restH s x (hs.drop k)) ∧ Below w4.heap.size w4 wr) (fun _ i _ => n - (intOf i).toNat)
    case atStart => exact ⟨0, 0, ⟨#[]⟩, Nat.zero_le _, rfl, rfl, by omega, by omega, by simp [ByteArray.size], hid (bytes_eq (by rw [data_extract]; simp)), hid Hm.out, hid rfl, Below.refl _ _⟩
    case round =>
      obtain ⟨k, x, t, hk, rfl, rfl, hx0, hx1, htz, ht, hM, hS, hbw⟩ := hrel
      have hbbw := then_ hbb4 hbw
      by_cases hlt : k < n
      · have hkl : k < hs.length := by rw [Hn.out]; exact hlt
        obtain ⟨ad, rfl, hbl, hc0, hc1, hc2, hc3⟩ := HolsAt.at_ (w := wr) (B := w.heap.size) (A := A) (HR.out.below hbbw) hkl
        obtain ⟨g1, rfl, hca⟩ := OwnS.cell (HO1.out.keep hbw) (k := k) (by rw [Hl1.out]; exact hlt)
        obtain ⟨g2, rfl, hcb⟩ := OwnS.cell (HO2.out.keep hbw) (k := k) (by rw [Hl2.out]; omega)
        obtain ⟨g, hg⟩ : ∃ g : Hol, hs[k] = g := ⟨_, rfl⟩
        rw [hg] at hc0 hc1 hc2 hc3
        have hga : (regH s hs)[k]'(by rw [Hl1.out]; exact hlt) = g.of s := by simp only [Hr1.out, List.getElem_map, hg]
        have Hd := hid (List.drop_eq_getElem_cons hkl)
        rw [hg] at Hd
        have hmc := hM.out
        rw [Hd.out] at hmc
        obtain ⟨h1, h2, h3, h4⟩ := mayH_cons _ _ _ _ hmc
        have H4 := hid h4
        have hgb : (rstH s hs)[k]'(by rw [Hl2.out]; omega) = s.extract x.toNat g.f.toNat := rstH_get s hs x k [] hS.out _ _ (by rw [Hd.out, restH]) Hm.out _
        rw [hga] at hca
        rw [hgb] at hcb
        have HS2 : Hid ((restH s 0 hs).drop (k + 1) = restH s g.t (hs.drop (k + 1))) := hid (by
          rw [← List.tail_drop, hS.out, Hd.out, restH]; rfl)
        clear hg hkl hmc h4 hga hgb hc2 hc3
        obtain ⟨f, to, e, y⟩ := g
        simp only at h1 h2 h3 hc0 hc1
        have hca2 : wr.cell? ⟨g1, k, none⟩ = some (.string (s.extract f.toNat to.toNat)) := hca
        clear hca
        have hss := str_self (s.extract f.toNat to.toNat)
        have hb1z : (s.extract x.toNat f.toNat).size ≤ 1048576 := by rw [ByteArray.size_extract]; omega
        have ha1z : (s.extract f.toNat to.toNat).size ≤ 1048576 := by rw [ByteArray.size_extract]; omega
        have Hj : Hid (t ++ s.extract x.toNat f.toNat ++ s.extract f.toNat to.toNat = s.extract 0 to.toNat) := hid (by
          rw [ht.out, extract_join _ _ _ (by omega), extract_join _ _ _ (by omega)])
        go_wp2_with (go_quiet (fail))
        go_roundw
        case rel =>
          refine ⟨k + 1, to, _, by omega, by go_num, rfl, by omega, by omega, ?_, hid Hj.out, hid H4.out, hid HS2.out, below_drewN hbw _⟩
          rw [Hj.out, ByteArray.size_extract]; omega
        case measure => simp [intOf]; omega
      · obtain rfl : k = n := by omega
        obtain ⟨g2, rfl, hcb⟩ := OwnS.cell (HO2.out.keep hbw) (k := k) (by rw [Hl2.out]; omega)
        have hgb : (rstH s hs)[k]'(by rw [Hl2.out]; omega) = s.extract x.toNat s.size := rstH_get s hs x k [] hS.out _ [] (by rw [List.drop_of_length_le (by rw [Hn.out]; exact Nat.le_refl _), restH]) Hm.out _
        rw [hgb] at hcb
        clear hgb
        have hb1z : (s.extract x.toNat s.size).size ≤ 1048576 := by rw [ByteArray.size_extract]; omega
        have Hj : Hid (t ++ s.extract x.toNat s.size = s) := hid (by
          rw [ht.out, extract_join _ _ _ (by omega), extract_all])
        have hss : ((t ++ s.extract x.toNat s.size).toList == s.toList) = true := by rw [Hj.out]; exact str_self s
        go_wp2_with fail
        refine (alive33_any _).mono ?_
        rintro e w5 ⟨rfl, hb5⟩
        go_wp2
        go_ret
        exact ⟨rfl, then_ hbbw hb5⟩
end Go.Proofs.Ytlmnagakgchpdaa
