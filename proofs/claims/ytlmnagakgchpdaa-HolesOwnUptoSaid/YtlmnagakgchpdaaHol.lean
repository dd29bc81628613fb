/- Slices of holes; holes.Check, may. -/
import Derived.Test.YtlmnagakgchpdaaRows
import Derived.Test.YtlmnagakgchpdaaReads
import Derived.Deep.QuietTactic
import Derived.BigQuiet
set_option linter.unusedVariables false
namespace Go.Proofs.Ytlmnagakgchpdaa
open Go.RowKit

/-- a hole -/
structure Hol where
  f : Int
  t : Int
  e : Int
  x : ByteArray
def Hol.cells (h : Hol) : List Value := [.int .i64 h.f, .int .i64 h.t, .int .i64 h.e, .string h.x]
def Hol.fits (h : Hol) : Prop := -9223372036854775808 ≤ h.f ∧ h.f ≤ 9223372036854775807 ∧ -9223372036854775808 ≤ h.t ∧ h.t ≤ 9223372036854775807
def holCells (hs : List Hol) : List Value := hs.flatMap Hol.cells
theorem holCells_len (hs : List Hol) : (holCells hs).length = hs.length * 4 := by
  induction hs with
  | nil => rfl
  | cons h hs ih => simp only [holCells, List.flatMap_cons, List.length_append, List.length_cons] at ih ⊢; rw [ih]; simp [Hol.cells]; omega
theorem holCells_get (hs : List Hol) (i j : Nat) (hi : i < hs.length) (hj : j < 4) : (holCells hs)[i * 4 + j]? = (hs[i].cells)[j]? := by
  induction hs generalizing i with
  | nil => simp at hi
  | cons h hs ih =>
    have e : holCells (h :: hs) = h.cells ++ holCells hs := by simp [holCells]
    have hl : h.cells.length = 4 := rfl
    rw [e]
    cases i with
    | zero => rw [List.getElem?_append_left (by omega)]; simp
    | succ i =>
      rw [List.getElem?_append_right (by omega)]
      have h2 := ih i (by simpa using hi)
      have e2 : (i + 1) * 4 + j - h.cells.length = i * 4 + j := by omega
      rw [e2, h2]; simp

/-- the value is a slice of these holes -/
def HolsAt (w : World) (B : Nat) (A : Option Addr) (hs : List Hol) : Prop := Reads w B 4 A hs.length (holCells hs)
theorem HolsAt.at_ {w : World} {B : Nat} {A : Option Addr} {hs : List Hol} (h : HolsAt w B A hs) {k : Nat} (hk : k < hs.length) :
    ∃ ad, A = some ad ∧ ad.block < B ∧ w.cell? (ad.add (k * 4)) = some (.int .i64 hs[k].f) ∧ w.cell? ⟨(ad.add (k * 4)).block, (ad.add (k * 4)).off + 1, none⟩ = some (.int .i64 hs[k].t) ∧ w.cell? ⟨(ad.add (k * 4)).block, (ad.add (k * 4)).off + 2, none⟩ = some (.int .i64 hs[k].e) ∧ w.cell? ⟨(ad.add (k * 4)).block, (ad.add (k * 4)).off + 3, none⟩ = some (.string hs[k].x) := by
  obtain ⟨ad, e, hb, hc⟩ := h.2 (by omega)
  have e1 : ∀ j, (⟨(ad.add (k * 4)).block, (ad.add (k * 4)).off + (j + 1), none⟩ : Addr) = ad.add (k * 4 + (j + 1)) := fun j => by rw [← add_of_add, Addr.add_succ']
  refine ⟨ad, e, hb, hc (k * 4) _ (holCells_get hs k 0 hk (by omega)), ?_, ?_, ?_⟩
  · rw [e1 0]; exact hc _ _ (holCells_get hs k 1 hk (by omega))
  · rw [e1 1]; exact hc _ _ (holCells_get hs k 2 hk (by omega))
  · rw [e1 2]; exact hc _ _ (holCells_get hs k 3 hk (by omega))

/-- do they lie in a text of n octets, from a place on? -/
def mayH (n : Nat) : Int → List Hol → Bool
  | _, [] => true
  | a, h :: r => !(decide (h.f < a) || decide (h.t < h.f) || decide (n < h.t)) && mayH n h.t r

/-- the error that tells it -/
def chkR (n : Nat) (hs : List Hol) : Int := if mayH n 0 hs then 0 else 4
theorem mayH_bad (n : Nat) (x : Int) (h : Hol) (r : List Hol) (hb : h.f < x ∨ h.t < h.f ∨ n < h.t) : mayH n x (h :: r) = false := by
  unfold mayH
  rcases hb with hb | hb | hb <;> simp [hb]
theorem mayH_good (n : Nat) (x : Int) (h : Hol) (r : List Hol) (h1 : ¬ h.f < x) (h2 : ¬ h.t < h.f) (h3 : ¬ n < h.t) : mayH n x (h :: r) = mayH n h.t r := by
  show (!(decide (h.f < x) || decide (h.t < h.f) || decide ((n : Int) < h.t)) && mayH n h.t r) = _
  simp [h1, h2, h3]

set_option maxHeartbeats 800000 in
theorem check_any (s : ByteArray) (A : Option Addr) (cap : Nat) (hs : List Hol) (w : World) (hsz : s.size ≤ 1048576) (hn : hs.length ≤ 1048576) (hfit : ∀ h ∈ hs, h.fits) (B : Nat) (hR : HolsAt w B A hs) (hB : B ≤ w.heap.size) :
    Calls Try.prog 8 #[.string s, .slice A hs.length cap] w (RInt w (chkR s.size hs)) := by
  have HR := hid hR
  have HF := hid hfit
  clear hR hfit
  obtain ⟨n, hnn⟩ : ∃ n, hs.length = n := ⟨_, rfl⟩
  have Hn := hid hnn
  rw [hnn] at hn ⊢
  clear hnn
  go_enter Try.func8, Try.ntmps8
  go_wp2
  go_loopw [5, 10] (fun a i wr => ∃ (k : Nat) (x : Int), k ≤ n ∧ i = .int .i64 k ∧ a = .int .i64 x ∧ -9223372036854775808 ≤ x ∧ x ≤ 9223372036854775807 ∧ Hid (mayH s.size 0 hs = mayH s.size x (hs.drop k)) ∧ Below w.heap.size w wr) (fun _ i _ => n - (intOf i).toNat)
  case atStart => exact ⟨0, 0, Nat.zero_le _, rfl, rfl, by omega, by omega, hid rfl, by go_grown⟩
  case round =>
    obtain ⟨k, x, hk, rfl, rfl, hx0, hx1, hp, hb⟩ := hrel
    by_cases hlt : k < n
    · have hkl : k < hs.length := by rw [Hn.out]; exact hlt
      obtain ⟨ad, rfl, hbl, hc0, hc1, hc2, hc3⟩ := HolsAt.at_ (w := wr) (B := B) (A := A) (HR.out.below (hb.mono hB)) hkl
      obtain ⟨g, hg⟩ : ∃ g : Hol, hs[k] = g := ⟨_, rfl⟩
      have hgf : g.fits := HF.out g (by rw [← hg]; exact List.getElem_mem hkl)
      rw [hg] at hc0 hc1 hc2 hc3
      have Hd := hid (List.drop_eq_getElem_cons hkl)
      rw [hg] at Hd
      clear hg hkl
      obtain ⟨f, t, e, y⟩ := g
      obtain ⟨g1, g2, g3, g4⟩ := hgf
      by_cases h1 : f < x
      · have HM := hid (mayH_bad s.size x ⟨f, t, e, y⟩ (hs.drop (k + 1)) (.inl h1))
        go_wp2
        go_ret
        exact ⟨_, rfl, hid (by unfold chkR; rw [hp.out, Hd.out, HM.out]; rfl), hb.alloc hb.size _⟩
      · by_cases h2 : t < f
        · have HM := hid (mayH_bad s.size x ⟨f, t, e, y⟩ (hs.drop (k + 1)) (.inr (.inl h2)))
          go_wp2
          go_ret
          exact ⟨_, rfl, hid (by unfold chkR; rw [hp.out, Hd.out, HM.out]; rfl), hb.alloc hb.size _⟩
        · by_cases h3 : (s.size : Int) < t
          · have HM := hid (mayH_bad s.size x ⟨f, t, e, y⟩ (hs.drop (k + 1)) (.inr (.inr h3)))
            go_wp2
            go_ret
            exact ⟨_, rfl, hid (by unfold chkR; rw [hp.out, Hd.out, HM.out]; rfl), hb.alloc hb.size _⟩
          · have HM := hid (mayH_good s.size x ⟨f, t, e, y⟩ (hs.drop (k + 1)) h1 h2 h3)
            go_wp2
            go_roundw
            case rel => exact ⟨k + 1, t, by omega, by go_num, rfl, g3, g4, hid (by rw [hp.out, Hd.out, HM.out]), hb.alloc hb.size _⟩
            case measure => simp [intOf]; omega
    · obtain rfl : k = n := by omega
      go_wp2
      go_ret
      refine ⟨_, rfl, hid ?_, hb⟩
      unfold chkR
      rw [hp.out, List.drop_of_length_le (by rw [Hn.out]; exact Nat.le_refl _)]
      rfl
end Go.Proofs.Ytlmnagakgchpdaa
