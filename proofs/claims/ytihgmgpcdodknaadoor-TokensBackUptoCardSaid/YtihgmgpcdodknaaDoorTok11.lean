/- The reader's attrs. -/
import Derived.Test.YtihgmgpcdodknaaDoorTok8
import Derived.Test.YtihgmgpcdodknaaDoorTok6
import Derived.Test.YtihgmgpcdodknaaDoorTok9
import Derived.Test.YtihgmgpcdodknaaDoorTok10
set_option linter.unusedVariables false
namespace Go.Proofs.YtihgmgpcdodknaaDoor
open Go.RowKit

theorem wp_skip_seq {P : Program} {c : Code} {Q : Exit → Act → World → Prop} {a : Act} {w : World} (h : c.wp P Q a w) : (Code.seq .skip c).wp P Q a w := by
  apply wp_seq_k
  intro K hK
  apply wp_skip
  exact hK _ _ h
theorem muA_is {w0 W : World} {R T A : Nat} {s : ByteArray} {m : Nat} {V : Value} {kd : Int} {tn : ByteArray} {VA : Value} {ats : List Att} {x y : List UInt8} (h : Co w0 W R T A s m V kd tn VA ats x y) (l : Nat) : muA R s l W = 4 * (s.size - m) + wtL l := by
  unfold muA; rw [h.pos]

set_option maxRecDepth 100000 in
set_option maxHeartbeats 3200000 in
theorem attrs_pass (base R T A : Nat) (s : ByteArray) (k : Nat) (V : Value) (L : List Tk) (kd : Int) (tn : ByteArray) (w0 : World) (Rz : Option (List Att × Bool × List UInt8)) (F : Fix base R T s k V L w0) (l : Nat) (a : Act) (W : World) (h : JA w0 R T A s V kd tn Rz l a W) :
    Code.wp Tryd.prog (codeL Tryd.f103 l) (jumps (fun l' a' w' => JA w0 R T A s V kd tn Rz l' a' w' ∧ muA R s l' w' < muA R s l W) (bodyPost Tryd.prog Tryd.f103 (AtPost base R T s V L kd tn w0 Rz))) a W := by
  obtain ⟨u, ha, m, VA, ats, x, y, C, hm, hl⟩ := h
  have hmu := muA_is C l
  match l, hl, hmu with
  | 0, hl, hmu => exact pass0 base R T A s k V L kd tn w0 Rz F _ _ rfl a ⟨u, ha⟩ W m VA ats x y C hm hl (by rw [hmu]; simp [wtL])
  | 1, hl, hmu => exact pass1 base R T A s k V L kd tn w0 Rz F _ _ rfl a ⟨u, ha⟩ W m VA ats x y C hm hl (by rw [hmu]; simp [wtL])
  | 2, hl, hmu => exact pass2 base R T A s k V L kd tn w0 Rz F _ _ rfl a ⟨u, ha⟩ W m VA ats x y C hm hl (by rw [hmu]; simp [wtL])
  | 3, hl, hmu => exact pass3 base R T A s k V L kd tn w0 Rz F _ _ rfl a ⟨u, ha⟩ W m VA ats x y C hm hl (by rw [hmu]; simp [wtL])
  | 4, hl, hmu => exact pass4 base R T A s k V L kd tn w0 Rz F _ _ rfl a ⟨u, ha⟩ W m VA ats x y C hm hl (by rw [hmu]; simp [wtL])
  | 5, hl, hmu => exact pass5 base R T A s k V L kd tn w0 Rz F _ _ rfl a ⟨u, ha⟩ W m VA ats x y C hm hl (by rw [hmu]; simp [wtL])
  | _ + 6, hl, hmu => exact (hl : False).elim
theorem lab0 : findLabel (codeA Tryd.f103) 0 = some (.seq .skip (codeL Tryd.f103 0)) := by kernel_rfl
theorem lab1 : findLabel (codeA Tryd.f103) 1 = some (.seq .skip (codeL Tryd.f103 1)) := by kernel_rfl
theorem lab2 : findLabel (codeA Tryd.f103) 2 = some (.seq .skip (codeL Tryd.f103 2)) := by kernel_rfl
theorem lab3 : findLabel (codeA Tryd.f103) 3 = some (.seq .skip (codeL Tryd.f103 3)) := by kernel_rfl
theorem lab4 : findLabel (codeA Tryd.f103) 4 = some (.seq .skip (codeL Tryd.f103 4)) := by kernel_rfl
theorem lab5 : findLabel (codeA Tryd.f103) 5 = some (.seq .skip (codeL Tryd.f103 5)) := by kernel_rfl
theorem label_in (l : Nat) (hl : l < 6) : findLabel (codeA Tryd.f103) l = some (.seq .skip (codeL Tryd.f103 l)) := by
  match l, hl with
  | 0, _ => exact lab0
  | 1, _ => exact lab1
  | 2, _ => exact lab2
  | 3, _ => exact lab3
  | 4, _ => exact lab4
  | 5, _ => exact lab5
theorem JA.lt {w0 W : World} {R T A : Nat} {s : ByteArray} {V : Value} {kd : Int} {tn : ByteArray} {Rz : Option (List Att × Bool × List UInt8)} {l : Nat} {a : Act} (h : JA w0 R T A s V kd tn Rz l a W) : l < 6 := by
  obtain ⟨u, ha, m, VA, ats, x, y, C, hm, hl⟩ := h
  match l, hl with
  | 0, _ => omega
  | 1, _ => omega
  | 2, _ => omega
  | 3, _ => omega
  | 4, _ => omega
  | 5, _ => omega
  | _ + 6, hl => exact (hl : False).elim
theorem jumps_mono {J J' : Nat → Act → World → Prop} {Q : Exit → Act → World → Prop} (h : ∀ l a w, J l a w → J' l a w) : ∀ (e : Exit) (a : Act) (w : World), jumps J Q e a w → jumps J' Q e a w := by
  intro e a w hq
  cases e with
  | goto l => exact h l a w hq
  | _ => exact hq

set_option maxRecDepth 100000 in
set_option maxHeartbeats 3200000 in
theorem attrs_any (base R T : Nat) (s : ByteArray) (k : Nat) (V : Value) (L : List Tk) (kd : Int) (tn : ByteArray) (w : World) (hs : s.size ≤ 65536) (hk : k ≤ s.size) (h : Rd w base R s k V L)
    (hT : Blk w T 53 #[.int .i64 kd, .string tn, .string ⟨#[]⟩, .slice none 0 0, .bool false]) (hv : V.ownBlock ≠ some T) :
    Calls Tryd.prog 103 #[.pointer (some ⟨R, 0, none⟩), .pointer (some ⟨T, 0, none⟩)] w (AtPost base R T s V L kd tn w (atT .bef (s.data.toList.drop k) [])) := by
  have F : Fix base R T s k V L w := ⟨hs, h, ⟨_, hT⟩, hv⟩
  have HF := hid F
  obtain ⟨Rz, hz⟩ : ∃ Rz, atT .bef (s.data.toList.drop k) [] = Rz := ⟨_, rfl⟩
  have Hz := hid hz
  rw [hz]
  have HT := hid hT
  have Hh := hid h
  clear hz hT h F
  have h0 := pass0 base R T w.heap.size s k V L kd tn w Rz HF.out (4 * s.size + 9) _ rfl
  simp only [codeL, inScp, aftLb, codeA, Tryd.f103, findLabel, Nat.reduceBEq, ↓reduceIte] at h0
  go_enter Tryd.func103, Tryd.ntmps103
  go_wp2
  refine wp_scope_multi (JA w R T w.heap.size s V kd tn Rz) (fun l _ w' => muA R s l w') (fun l => .seq .skip (codeL Tryd.f103 l)) (fun l a w' hJ => label_in l hJ.lt) ?_ (fun l a w' hJ => wp_skip_seq (attrs_pass base R T w.heap.size s k V L kd tn w Rz HF.out l a w' hJ))
  go_wp2
  refine wp_label ?_
  refine (by assumption : ∀ (a : Act) (w : World), Code.wp _ _ _ a w → Exit.then _ _ Exit.normal a w) _ _ ?_
  refine Code.wp_mono (jumps_mono fun l a w' hh => hh.1) (h0 _ ?_ _ k (.slice none 0 0) [] [] [] ?_ hk ⟨Nat.zero_le _, Hz.out⟩ (by omega))
  · exact frame_ex (by kernel_rfl)
  · exact ⟨Hh.out.2.1.alloc _, HT.out.alloc _, Blk.new w _ _, OwnA.nil _ _, Fr.of_below (alloc_below w _), Nat.le_refl _⟩
end Go.Proofs.YtihgmgpcdodknaaDoor
