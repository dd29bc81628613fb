/- Rows of units; sizes.Units. -/
import Derived.Test.YthhaannlbkgefaaNdsF
import Derived.Deep.MidRow
set_option linter.unusedVariables false
namespace Go.Proofs.Ythhaannlbkgefaa
open Go.RowKit

/-- a unit of this body lies at p -/
def UnAt (w : World) (B : Nat) (p : Addr) (l : List Nd) : Prop :=
  p.block < B ∧ p.spot = none ∧ ∃ cs : List Value, cs.length = 18 ∧ cs.toArray.all (·.oneCell') = true ∧ w.rangeAt p.block p.off cs ∧ ∃ (Ab : Option Addr) (cb : Nat), cs[17]? = some (.slice Ab l.length cb) ∧ NdsAt w B Ab 0 l
def UnsAt (w : World) (B : Nat) (A : Option Addr) (us : List (List Nd)) : Prop := ∀ k (h : k < us.length), ∃ ad, A = some ad ∧ UnAt w B (ad.add (k * 18)) us[k]
theorem UnAt.keep {w w' : World} {B : Nat} (h : ∀ p : Addr, p.block < B → w'.cell? p = w.cell? p) {p : Addr} {l : List Nd} (hu : UnAt w B p l) : UnAt w' B p l := by
  obtain ⟨h0, hsp, cs, h18, h1, hr, Ab, cb, h17, hb⟩ := hu
  exact ⟨h0, hsp, cs, h18, h1, fun j v hv => (h ⟨p.block, p.off + j, none⟩ h0).trans (hr j v hv), Ab, cb, h17, NdsAt.keep h l Ab 0 hb⟩
theorem UnsAt.keep {w w' : World} {B : Nat} (h : ∀ p : Addr, p.block < B → w'.cell? p = w.cell? p) {A : Option Addr} {us : List (List Nd)} (hu : UnsAt w B A us) : UnsAt w' B A us := fun k hk => by
  obtain ⟨ad, e, hn⟩ := hu k hk
  exact ⟨ad, e, hn.keep h⟩
theorem uns_take (us : List (List Nd)) (k : Nat) (h : k < us.length) : ndsSz (us.take (k + 1)).flatten = ((ndsSz (us.take k).flatten).1 + (ndsSz us[k]).1, (ndsSz (us.take k).flatten).2 + (ndsSz us[k]).2) := by
  rw [List.take_succ_eq_append_getElem h, List.flatten_append, ndsSz_app]
  simp
theorem uns_le (us : List (List Nd)) (k : Nat) : (ndsSz (us.take k).flatten).1 ≤ (ndsSz us.flatten).1 ∧ (ndsSz (us.take k).flatten).2 ≤ (ndsSz us.flatten).2 := by
  have h : us.flatten = (us.take k).flatten ++ (us.drop k).flatten := by rw [← List.flatten_append, List.take_append_drop]
  rw [h, ndsSz_app]
  simp only; omega
theorem uns_num : ∀ (us : List (List Nd)) (k : Nat) (h : k < us.length), ndsNum us[k] ≤ ndsNum us.flatten
  | l :: r, 0, _ => by rw [List.flatten_cons, ndsNum_app]; simp
  | l :: r, k + 1, h => by
    have := uns_num r k (by simpa using h)
    rw [List.flatten_cons, ndsNum_app, List.getElem_cons_succ]; omega
theorem below_cellsSet {B : Nat} {a : World} (b : Nat) (hb : B ≤ b) : ∀ (vs : List Value) (o : Nat) {w : World}, Below B a w → Below B a (w.setCells b o vs)
  | [], _, _, h => h
  | v :: r, o, _, h => below_cellsSet b hb r (o + 1) (h.setCell (p := ⟨b, o, none⟩) hb v)
theorem row_there (w : World) (C : Array Value) (t : TypeId) (n : Nat) (h : C.size = n) : (w.alloc (.cells C t)).there w.heap.size 0 n := fun j hj => by
  rw [Nat.zero_add]
  refine ⟨?_, World.frozen?_alloc_new w C t j⟩
  rw [World.cell?_alloc_mark, Array.getElem?_eq_getElem (by omega)]; rfl
theorem row_laid (w : World) (C : Array Value) (t : TypeId) (cs : List Value) (h : C.size = cs.length) (j : Nat) (v : Value) (hv : cs[j]? = some v) : ((w.alloc (.cells C t)).setCells w.heap.size 0 cs).cell? ⟨w.heap.size, j, none⟩ = some v := by
  have := World.rangeAt_setCells_same (w.alloc (.cells C t)) w.heap.size 0 cs (row_there w C t _ h) j v hv
  rwa [Nat.zero_add] at this
theorem row_below (w : World) (C : Array Value) (t : TypeId) (cs : List Value) : Below w.heap.size w ((w.alloc (.cells C t)).setCells w.heap.size 0 cs) := below_cellsSet _ (Nat.le_refl _) _ _ (alloc_plain _ _)

set_option maxRecDepth 100000 in
set_option maxHeartbeats 1600000 in
theorem units_any (us : List (List Nd)) (hn : us.length ≤ 1048576) (hm : ndsNum us.flatten ≤ 1048576) (hs1 : (ndsSz us.flatten).1 ≤ 1048576) (hs2 : (ndsSz us.flatten).2 ≤ 1048576) (A : Option Addr) (cap : Nat) (w : World) (B : Nat) (hR : UnsAt w B A us) (hB : B ≤ w.heap.size) :
    Calls Try.prog 12 #[.slice A us.length cap] w fun e w' => e = .returned (cV (ndsSz us.flatten)) ∧ Below w.heap.size w w' := by
  have HR := hid hR
  have Hle := hid (uns_le us)
  have Htk := hid (uns_take us)
  have Hnum := hid (uns_num us)
  have H0 := hid fW_zero
  clear hR
  obtain ⟨n, hnn⟩ : ∃ n, us.length = n := ⟨_, rfl⟩
  have Hn := hid hnn
  rw [hnn] at hn ⊢
  clear hnn
  go_enter Try.func12, Try.ntmps12
  go_wp2
  go_loopw [3, 8] (fun c i wr => ∃ k : Nat, k ≤ n ∧ i = .int .i64 k ∧ c = cV (ndsSz (us.take k).flatten) ∧ Below w.heap.size w wr) (fun _ i _ => n - (intOf i).toNat)
  case atStart => exact ⟨0, Nat.zero_le _, rfl, by rw [List.take_zero]; show _ = Value.complex .f64 (fW 0) (fW 0); rw [H0.out], Below.refl _ _⟩
  case round =>
    obtain ⟨k, hk, rfl, rfl, hbw⟩ := hrel
    by_cases hlt : decide (k < n) = true
    · have hkl : k < us.length := by rw [Hn.out]; exact of_decide_eq_true hlt
      obtain ⟨ad, rfl, hnd⟩ := (HR.out.keep (w' := wr) (fun p hp => (hbw.mono hB).cell hp)) k hkl
      have htk := Htk.out k hkl
      have hle := Hle.out (k + 1)
      have hnum := Hnum.out k hkl
      rw [htk] at hle
      obtain ⟨l, hl⟩ : ∃ l, us[k] = l := ⟨_, rfl⟩
      rw [hl] at hnd htk hle hnum
      obtain ⟨h0, hsp, cs, h18, h1, hr, Ab, cb, h17, hb⟩ := hnd
      obtain ⟨b, o, hbo⟩ : ∃ b o, ad.add (k * 18) = ⟨b, o, none⟩ := ⟨_, _, by rw [← hsp]⟩
      rw [hbo] at h0 hr
      have HR1 := hid hr
      have HC1 := hid h1
      have HC17 := hid h17
      have HI : Hid ((Try.prog.info? 37).map (·.size) = some cs.length) := hid (by rw [h18]; kernel_rfl)
      have H18 := hid h18
      clear hr h1 h17 h18
      simp only at hle
      have Hbb := hid (fun (W : World) (h : Below wr.heap.size wr W) => nodes_any l (by omega) (by omega) (by omega) Ab cb W B (NdsAt.keep (fun p hp => (h.mono (by have := hbw.size; omega)).cell hp) l Ab 0 hb) (by have := hbw.size; have := h.size; omega))
      obtain ⟨nb, hnb'⟩ : ∃ nb, l.length = nb := ⟨_, rfl⟩
      rw [hnb'] at HC17 Hbb
      unfold RNds at Hbb
      obtain ⟨q, hq⟩ : ∃ q, ndsSz (us.take k).flatten = q := ⟨_, rfl⟩
      obtain ⟨p, hp⟩ : ∃ p, ndsSz l = p := ⟨_, rfl⟩
      rw [hq, hp] at htk hle
      rw [hp] at Hbb
      rw [hq]
      have e1 := fW_add (q.1 : Int) (p.1 : Int) (by omega) (by omega) (by omega)
      have e2 := fW_add (q.2 : Int) (p.2 : Int) (by omega) (by omega) (by omega)
      have e3 : Hid (cV (ndsSz (us.take (k + 1)).flatten) = .complex .f64 (fW ((q.1 : Int) + (p.1 : Int))) (fW ((q.2 : Int) + (p.2 : Int)))) := hid (by rw [htk]; unfold cV; simp)
      simp only [cV] at Hbb
      have e0 : cV q = .complex .f64 (fW (q.1 : Int)) (fW (q.2 : Int)) := rfl
      rw [e0]
      generalize fW (q.1 : Int) = a1 at e1 ⊢
      generalize fW (q.2 : Int) = a2 at e2 ⊢
      generalize fW (p.1 : Int) = b1 at e1 Hbb
      generalize fW (p.2 : Int) = b2 at e2 Hbb
      generalize fW ((q.1 : Int) + (p.1 : Int)) = c1 at e1 e3
      generalize fW ((q.2 : Int) + (p.2 : Int)) = c2 at e2 e3
      have hadd := run_cadd' (P := Try.prog) 24 a1 a2 b1 b2 c1 c2 e1 e2
      clear e0 e1 e2 hq hp htk hle hnum hl hkl hb hnb' h0
      clear hs1 hs2 hm hB
      go_wp2_with (first
        | refine wpList_load_mid rfl 37 _ rfl b o rfl cs _ HR1.out Try.underlying37 rfl HI.out ?_
        | (refine wpList_store_mid rfl 37 _ _ rfl wr.heap.size 0 cs.toArray rfl rfl (row_there wr _ _ _ (by simp [H18.out])) HI.out HC1.out ?_
           generalize hW : World.setCells _ _ _ _ = W
           have hal : Below wr.heap.size wr W := hW ▸ row_below wr _ _ _
           have hc17 : W.cell? ⟨wr.heap.size, 17, none⟩ = some (.slice Ab nb cb) := hW ▸ row_laid wr _ _ _ (by simp [H18.out]) 17 _ HC17.out
           clear hW)
        | fail)
      rotate_left
      · exact absurd (of_decide_eq_true hlt) (by assumption)
      refine (Hbb.out _ hal).mono ?_
      rintro e' w' ⟨rfl, hb'⟩
      have hb2 : Below wr.heap.size wr w' := then_ hal hb'
      clear hb' Hbb HR Hle Htk Hnum
      go_wp2
      go_roundw
      case rel => exact ⟨k + 1, by omega, by go_num, e3.out.symm, hbw.trans (hb2.mono hbw.size)⟩
      case measure => simp [intOf]; omega
    · obtain rfl : k = n := by have : ¬ k < n := fun h => hlt (decide_eq_true h)
                               omega
      clear hlt
      have hall : Hid (us.take k = us) := hid (List.take_of_length_le (by rw [Hn.out]; exact Nat.le_refl _))
      rw [hall.out]
      unfold cV
      go_wp2
      go_ret
      exact ⟨rfl, hbw⟩
end Go.Proofs.Ythhaannlbkgefaa
