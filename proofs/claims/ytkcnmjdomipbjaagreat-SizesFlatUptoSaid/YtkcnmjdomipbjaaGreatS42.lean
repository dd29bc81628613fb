import Derived.Laws.IdiomCopy
import Derived.Test.YtkcnmjdomipbjaaGreatS39
import Derived.Test.YtkcnmjdomipbjaaGreatS41
set_option linter.unusedVariables false
set_option maxHeartbeats 100000000
set_option maxRecDepth 100000
namespace Go.Proofs.YtkcnmjdomipbjaaGreat
open Go.RowKit
theorem flatten_get {α : Type} {sz i : Nat} (hi : i < sz) : ∀ {l : List (List α)} {j : Nat} {r : List α}, (∀ q ∈ l, q.length = sz) -> l[j]? = some r -> l.flatten[j * sz + i]? = r[i]?
 | [], j, r, _, h => by simp at h
 | q :: l, 0, r, hl, h => by
  obtain rfl : q = r := by simpa using h
  have := hl q (by simp);rw [List.flatten_cons, Nat.zero_mul, Nat.zero_add, List.getElem?_append_left (by omega)]
 | q :: l, j + 1, r, hl, h => by
  have h1 := hl q (by simp);rw [List.flatten_cons, List.getElem?_append_right (by rw [h1, Nat.add_mul]; omega), h1, show (j + 1) * sz + i - sz = j * sz + i by rw [Nat.add_mul]; omega];exact flatten_get hi (fun p hp => hl p (List.mem_cons_of_mem _ hp)) (by simpa using h)
section
variable {w w' : World} {base sz n g cap : Nat} {e t : TypeId} {v : Value} {xs : List Value} {cs : Array Value}
theorem own_shape (h : w.ownsRow base e sz v n xs) : ∃ A c, v = .slice A n c := by
 rcases h.2 with ⟨rfl, rfl⟩ | ⟨g, cap, cur, rfl, _⟩
 ·exact ⟨none, 0, rfl⟩
 exact ⟨_, _, rfl⟩
end
section
variable {pw n d : Nat} {vdf vu vdo vme vwa : Value} {at_ er : Int} {w w' : World}
theorem WIn.cells (h : WIn pw vdf n d w vu vdo vme vwa at_ er) : w.cell? ⟨pw, 0, none⟩ = some vdf /\ w.cell? ⟨pw, 1, none⟩ = some vu /\ w.cell? ⟨pw, 2, none⟩ = some vdo /\ w.cell? ⟨pw, 3, none⟩ = some vme /\ w.cell? ⟨pw, 4, none⟩ = some vwa /\ w.cell? ⟨pw, 5, none⟩ = some (.int .i64 (d : Int)) := by
 have k := h.wk
 unfold WkAt at k
 exact ⟨(k.cell 0).trans rfl, (k.cell 1).trans rfl, (k.cell 2).trans rfl, (k.cell 3).trans rfl, (k.cell 4).trans rfl, (k.cell 5).trans rfl⟩
theorem WIn.frozen (h : WIn pw vdf n d w vu vdo vme vwa at_ er) (i : Nat) : w.frozen? ⟨pw, i, none⟩ = false := Blk.frozen h.wk i
theorem WIn.shape (h : WIn pw vdf n d w vu vdo vme vwa at_ er) : ∃ Au cu Ad cd Am cm Aw cw, vu = .slice Au n cu /\ vdo = .slice Ad n cd /\ vme = .slice Am n cm /\ vwa = .slice Aw n cw := by
 obtain ⟨_, h1, _⟩ := h.un
 obtain ⟨_, h2, _⟩ := h.dn
 obtain ⟨_, h3, _⟩ := h.mn
 obtain ⟨_, h4, _⟩ := h.wn
 obtain ⟨A1, c1, e1⟩ := own_shape h1
 obtain ⟨A2, c2, e2⟩ := own_shape h2
 obtain ⟨A3, c3, e3⟩ := own_shape h3
 obtain ⟨A4, c4, e4⟩ := own_shape h4
 exact ⟨A1, c1, A2, c2, A3, c3, A4, c4, e1, e2, e3, e4⟩
theorem WIn.blocks (h : WIn pw vdf n d w vu vdo vme vwa at_ er) (hn : 0 < n) : ∃ gu cu gd cd gm cm gw cw, vu = .slice (some ⟨gu, 0, none⟩) n cu /\ vdo = .slice (some ⟨gd, 0, none⟩) n cd /\ vme = .slice (some ⟨gm, 0, none⟩) n cm /\ vwa = .slice (some ⟨gw, 0, none⟩) n cw := by
 obtain ⟨_, h1, _⟩ := h.un
 obtain ⟨_, h2, _⟩ := h.dn
 obtain ⟨_, h3, _⟩ := h.mn
 obtain ⟨_, h4, _⟩ := h.wn
 obtain ⟨g1, c1, e1, _⟩ := h1.form hn
 obtain ⟨g2, c2, e2, _⟩ := h2.form hn
 obtain ⟨g3, c3, e3, _⟩ := h3.form hn
 obtain ⟨g4, c4, e4, _⟩ := h4.form hn
 exact ⟨g1, c1, g2, c2, g3, c3, g4, c4, e1, e2, e3, e4⟩
theorem WIn.row {gu cu : Nat} (h : WIn pw vdf n d w (.slice (some ⟨gu, 0, none⟩) n cu) vdo vme vwa at_ er) {j : Nat} (hj : j < n) : ∃ (nm : ByteArray) (f t : St) (A : Option Addr) (m c : Nat), t.ok /\ w.cell? ⟨gu, j * 18, none⟩ = some (.string nm) /\ w.rangeAt gu (j * 18 + 1) f.l /\ w.rangeAt gu (j * 18 + 9) t.l /\ w.cell? ⟨gu, j * 18 + 17, none⟩ = some (.slice A m c) := by
 obtain ⟨rows, h1, h2, h3⟩ := h.un
 have hjl : j < rows.length := by omega
 obtain ⟨nm, f, t, A, m, c, hr, ht⟩ := h3 _ (List.getElem_mem hjl)
 have hc : ∀ i, i < 18 -> w.cell? ⟨gu, j * 18 + i, none⟩ = (rows[j])[i]? := fun i hi => by
  rw [h1.cellAt (j * 18 + i) (by have : (j + 1) * 18 <= n * 18 := Nat.mul_le_mul_right _ hj; omega)];exact flatten_get hi (fun q hq => (h3 q hq).len) (List.getElem?_eq_getElem hjl)
 refine ⟨nm, f, t, A, m, c, ht, ?_, fun i v hv => ?_, fun i v hv => ?_, ?_⟩
 ·have := hc 0 (by omega);rw [Nat.add_zero, hr] at this;exact this
 ·have hi : i < 8 := by have := (List.getElem?_eq_some_iff.1 hv).1; rwa [St.len] at this
  rw [show j * 18 + 1 + i = j * 18 + (1 + i) by omega, hc (1 + i) (by omega), hr, <- hv];rw [Nat.add_comm, List.getElem?_cons_succ, List.append_assoc, List.getElem?_append_left (by rw [St.len]; omega)]
 ·have hi : i < 8 := by have := (List.getElem?_eq_some_iff.1 hv).1; rwa [St.len] at this
  rw [show j * 18 + 9 + i = j * 18 + (8 + i + 1) by omega, hc (8 + i + 1) (by omega), hr, <- hv];rw [List.getElem?_cons_succ, List.append_assoc, List.getElem?_append_right (by rw [St.len]; omega), St.len, show 8 + i - 8 = i by omega, List.getElem?_append_left (by rw [St.len]; omega)]
 rw [hc 17 (by omega), hr]
 rfl
theorem flag_at {base gd cd : Nat} {e : TypeId} {xs : List Value} (h : w.ownsRow base e 1 (.slice (some ⟨gd, 0, none⟩) n cd) n xs) {p : Value -> Prop} (hp : ∀ x ∈ xs, p x) {j : Nat} (hj : j < n) : ∃ v, w.cell? ⟨gd, j, none⟩ = some v /\ p v /\ w.frozen? ⟨gd, j, none⟩ = false := by
 have hl := h.1
 have hjl : j < xs.length := by omega
 exact ⟨xs[j], by rw [h.cellAt j (by omega), List.getElem?_eq_getElem hjl], hp _ (List.getElem_mem hjl), h.frozenAt j⟩
theorem set_all {p : Value -> Prop} {xs : List Value} (h : ∀ x ∈ xs, p x) (j : Nat) {v : Value} (hv : p v) : ∀ x ∈ xs.set j v, p x := fun x hx => by
 rcases List.mem_or_eq_of_mem_set hx with k | k
 ·exact h x k
 rw [k]; exact hv
theorem WIn.setD {gd cd : Nat} (h : WIn pw vdf n d w vu (.slice (some ⟨gd, 0, none⟩) n cd) vme vwa at_ er) (j : Nat) (b : Bool) : WIn pw vdf n d (w.setCell ⟨gd, j, none⟩ (.bool b)) vu (.slice (some ⟨gd, 0, none⟩) n cd) vme vwa at_ er /\ pw <= gd := by
 obtain ⟨xs, h1, h2⟩ := h.dn
 have hb : Blk w gd 4 _ := (own_typed h1 gd rfl).choose_spec
 have hpw : pw ≠ gd := fun e => by subst e; exact Blk.ne_ h.wk hb (by decide) rfl
 refine ⟨⟨Blk.far (p := ⟨gd, j, none⟩) h.wk hpw _, ?_, ⟨_, (h1.stored j (.bool b)).1, set_all h2 j ⟨b, rfl⟩⟩, ?_, ?_, h.ne, h.n_le, h.d_le⟩, (h1.lt gd rfl).1⟩
 ·obtain ⟨rows, k1, k2⟩ := h.un;exact ⟨rows, own_far k1 (own_ne k1 hb (by decide)) j _, k2⟩
 ·obtain ⟨ys, k1, k2⟩ := h.mn;exact ⟨ys, own_far k1 (own_ne k1 hb (by decide)) j _, k2⟩
 obtain ⟨ys, k1, k2⟩ := h.wn
 exact ⟨ys, own_far k1 (h.ne gd rfl) j _, k2⟩
theorem WIn.setW {gw cw : Nat} (h : WIn pw vdf n d w vu vdo vme (.slice (some ⟨gw, 0, none⟩) n cw) at_ er) (j : Nat) (b : Bool) : WIn pw vdf n d (w.setCell ⟨gw, j, none⟩ (.bool b)) vu vdo vme (.slice (some ⟨gw, 0, none⟩) n cw) at_ er /\ pw <= gw := by
 obtain ⟨xs, h1, h2⟩ := h.wn
 have hb : Blk w gw 4 _ := (own_typed h1 gw rfl).choose_spec
 have hpw : pw ≠ gw := fun e => by subst e; exact Blk.ne_ h.wk hb (by decide) rfl
 refine ⟨⟨Blk.far (p := ⟨gw, j, none⟩) h.wk hpw _, ?_, ?_, ?_, ⟨_, (h1.stored j (.bool b)).1, set_all h2 j ⟨b, rfl⟩⟩, h.ne, h.n_le, h.d_le⟩, (h1.lt gw rfl).1⟩
 ·obtain ⟨rows, k1, k2⟩ := h.un;exact ⟨rows, own_far k1 (own_ne k1 hb (by decide)) j _, k2⟩
 ·obtain ⟨ys, k1, k2⟩ := h.dn;exact ⟨ys, own_far k1 (fun e => h.ne gw e rfl) j _, k2⟩
 obtain ⟨ys, k1, k2⟩ := h.mn
 exact ⟨ys, own_far k1 (own_ne k1 hb (by decide)) j _, k2⟩
theorem WIn.setM {gm cm : Nat} (h : WIn pw vdf n d w vu vdo (.slice (some ⟨gm, 0, none⟩) n cm) vwa at_ er) (j : Nat) (z : Int) : WIn pw vdf n d (w.setCell ⟨gm, j, none⟩ (.int .i64 z)) vu vdo (.slice (some ⟨gm, 0, none⟩) n cm) vwa at_ er /\ pw <= gm := by
 obtain ⟨xs, h1, h2⟩ := h.mn
 have hb : Blk w gm 3 _ := (own_typed h1 gm rfl).choose_spec
 have hpw : pw ≠ gm := fun e => by subst e; exact Blk.ne_ h.wk hb (by decide) rfl
 refine ⟨⟨Blk.far (p := ⟨gm, j, none⟩) h.wk hpw _, ?_, ?_, ⟨_, (h1.stored j (.int .i64 z)).1, set_all h2 j ⟨z, rfl⟩⟩, ?_, h.ne, h.n_le, h.d_le⟩, (h1.lt gm rfl).1⟩
 ·obtain ⟨rows, k1, k2⟩ := h.un;exact ⟨rows, own_far k1 (own_ne k1 hb (by decide)) j _, k2⟩
 ·obtain ⟨ys, k1, k2⟩ := h.dn;exact ⟨ys, own_far k1 (own_ne k1 hb (by decide)) j _, k2⟩
 obtain ⟨ys, k1, k2⟩ := h.wn
 exact ⟨ys, own_far k1 (own_ne k1 hb (by decide)) j _, k2⟩
theorem WIn.setDeep (h : WIn pw vdf n d w vu vdo vme vwa at_ er) (d' : Nat) (hd : d' <= 32) : WIn pw vdf n d' (w.setCell ⟨pw, 5, none⟩ (.int .i64 (d' : Int))) vu vdo vme vwa at_ er := by
 have hk := h.wk
 have k := Blk.set_ hk 5 (.int .i64 (d' : Int))
 have far : ∀ {e sz v xs}, w.ownsRow pw e sz v n xs -> 88 ≠ e -> (w.setCell ⟨pw, 5, none⟩ (.int .i64 (d' : Int))).ownsRow pw e sz v n xs := fun ho he => own_far ho (own_ne ho hk he) 5 _
 exact ⟨k, h.un.imp fun _ q => ⟨far q.1 (by decide), q.2⟩, h.dn.imp fun _ q => ⟨far q.1 (by decide), q.2⟩, h.mn.imp fun _ q => ⟨far q.1 (by decide), q.2⟩, h.wn.imp fun _ q => ⟨far q.1 (by decide), q.2⟩, h.ne, h.n_le, hd⟩
end
theorem own_ne2 {w : World} {b1 b2 s1 s2 n1 n2 : Nat} {e1 e2 : TypeId} {v1 v2 : Value} {x1 x2 : List Value} (h1 : w.ownsRow b1 e1 s1 v1 n1 x1) (h2 : w.ownsRow b2 e2 s2 v2 n2 x2) (he : e1 ≠ e2) : ∀ g, v1.ownBlock = some g -> v2.ownBlock ≠ some g := fun g hg => own_ne h2 (own_typed h1 g hg).choose_spec he
structure WMid (pw : Nat) (vdf : Value) (n d : Nat) (w : World) (vu vdo vme vwa : Value) (at_ er : Int) : Prop where
 wk : WkAt pw ⟨vdf, vu, vdo, vme, vwa, d, at_, er⟩ w
 un : ∃ rows : List (List Value), w.ownsRow pw 35 18 vu (n + 1) rows.flatten /\ rows.length = n + 1 /\ ∀ r ∈ rows, UnitRow r
 dn : ∃ xs, w.ownsRow pw 4 1 vdo n xs /\ ∀ x ∈ xs, isB x
 mn : ∃ xs, w.ownsRow pw 3 1 vme n xs /\ ∀ x ∈ xs, isI x
 wn : ∃ xs, w.ownsRow pw 4 1 vwa n xs /\ ∀ x ∈ xs, isB x
 ne : ∀ g, vdo.ownBlock = some g -> vwa.ownBlock ≠ some g
 n_lt : n < 64
 d_le : d <= 32
section
variable {pw n d : Nat} {vdf vu vdo vme vwa : Value} {at_ er : Int} {w w4 : World}
theorem WIn.grownU (h : WIn pw vdf n d w vu vdo vme vwa at_ er) (hg : w.grownBy w4 vu.ownBlock) : WkAt pw ⟨vdf, vu, vdo, vme, vwa, d, at_, er⟩ w4 := by
 obtain ⟨rows, ho, _⟩ := h.un
 exact Blk.grown h.wk hg fun e => own_ne ho h.wk (by decide) e.symm
theorem WIn.pushU (h : WIn pw vdf n d w vu vdo vme vwa at_ er) {v' : Value} {r : List Value} {rows : List (List Value)} (ho : w.ownsRow pw 35 18 vu n rows.flatten) (hl : rows.length = n) (hrows : ∀ r ∈ rows, UnitRow r) (ho4 : w4.ownsRow pw 35 18 v' (n + 1) (rows.flatten ++ r)) (hr : UnitRow r) (hg : w.grownBy w4 vu.ownBlock) (hn : n < 64) :
  WMid pw vdf n d (w4.setCell ⟨pw, 1, none⟩ v') v' vdo vme vwa at_ er /\ TF XW pw w (w4.setCell ⟨pw, 1, none⟩ v') := by
 have hk := h.grownU hg
 have hT : TF XW pw w w4 := TF.refl.grown hg fun g hg => .inr ⟨(ho.lt g hg).1, _, _, _, (own_typed ho g hg).choose_spec, rfl⟩
 have far : ∀ {e sz v m xs}, w4.ownsRow pw e sz v m xs -> 88 ≠ e -> (w4.setCell ⟨pw, 1, none⟩ v').ownsRow pw e sz v m xs := fun ho he => own_far ho (own_ne ho hk he) 1 _
 have hb : Blk w pw 88 _ := h.wk
 refine ⟨⟨Blk.set_ hk 1 v', ⟨rows ++ [r], ?_, by rw [List.length_append, hl]; rfl, fun q hq => ?_⟩, ?_, ?_, ?_, h.ne, hn, h.d_le⟩, hT.setCell (p := ⟨pw, 1, none⟩) (.inr ⟨Nat.le_refl _, _, _, _, hk, rfl⟩) v'⟩
 ·rw [List.flatten_append, List.flatten_cons, List.flatten_nil, List.append_nil];exact far ho4 (by decide)
 ·rcases List.mem_append.1 hq with k | k
  ·exact hrows q k
  rw [List.mem_singleton.1 k]; exact hr
 ·obtain ⟨ys, k1, k2⟩ := h.dn;exact ⟨ys, far (own_grown k1 hg fun g hg => own_ne2 k1 ho (by decide) g hg) (by decide), k2⟩
 ·obtain ⟨ys, k1, k2⟩ := h.mn;exact ⟨ys, far (own_grown k1 hg fun g hg => own_ne2 k1 ho (by decide) g hg) (by decide), k2⟩
 obtain ⟨ys, k1, k2⟩ := h.wn
 exact ⟨ys, far (own_grown k1 hg fun g hg => own_ne2 k1 ho (by decide) g hg) (by decide), k2⟩
end
theorem WMid.cells {pw n d : Nat} {vdf vu vdo vme vwa : Value} {at_ er : Int} {w : World} (h : WMid pw vdf n d w vu vdo vme vwa at_ er) : w.cell? ⟨pw, 1, none⟩ = some vu /\ w.cell? ⟨pw, 2, none⟩ = some vdo /\ w.cell? ⟨pw, 3, none⟩ = some vme /\ w.cell? ⟨pw, 4, none⟩ = some vwa := by
 have k := h.wk
 unfold WkAt at k
 exact ⟨(k.cell 1).trans rfl, (k.cell 2).trans rfl, (k.cell 3).trans rfl, (k.cell 4).trans rfl⟩
structure Q3 (pw : Nat) (vdf : Value) (n d : Nat) (vu vdo vme vwa : Value) (at_ er : Int) (W5 w : World) (vD : Value) (nD : Nat) (vM : Value) (nM : Nat) (vW : Value) (nW : Nat) : Prop where
 wk : WkAt pw ⟨vdf, vu, vdo, vme, vwa, d, at_, er⟩ w
 un : ∃ rows : List (List Value), w.ownsRow pw 35 18 vu (n + 1) rows.flatten /\ rows.length = n + 1 /\ ∀ r ∈ rows, UnitRow r
 dn : ∃ xs, w.ownsRow pw 4 1 vD nD xs /\ ∀ x ∈ xs, isB x
 mn : ∃ xs, w.ownsRow pw 3 1 vM nM xs /\ ∀ x ∈ xs, isI x
 wn : ∃ xs, w.ownsRow pw 4 1 vW nW xs /\ ∀ x ∈ xs, isB x
 ne : ∀ g, vD.ownBlock = some g -> vW.ownBlock ≠ some g
 n_lt : n < 64
 d_le : d <= 32
 tf : TF XW pw W5 w
section
variable {pw n d : Nat} {vdf vu vdo vme vwa : Value} {at_ er : Int} {W5 w w' : World} {vD vM vW : Value} {nD nM nW : Nat}
theorem WMid.q3 (h : WMid pw vdf n d w vu vdo vme vwa at_ er) : Q3 pw vdf n d vu vdo vme vwa at_ er w w vdo n vme n vwa n := ⟨h.wk, h.un, h.dn, h.mn, h.wn, h.ne, h.n_lt, h.d_le, TF.refl⟩
theorem Q3.below (h : Q3 pw vdf n d vu vdo vme vwa at_ er W5 w vD nD vM nM vW nW) (hb : Below w.heap.size w w') : Q3 pw vdf n d vu vdo vme vwa at_ er W5 w' vD nD vM nM vW nW :=
 ⟨h.wk.below hb, h.un.imp fun _ k => ⟨own_below k.1 hb, k.2⟩, h.dn.imp fun _ k => ⟨own_below k.1 hb, k.2⟩, h.mn.imp fun _ k => ⟨own_below k.1 hb, k.2⟩, h.wn.imp fun _ k => ⟨own_below k.1 hb, k.2⟩, h.ne, h.n_lt, h.d_le, h.tf.below hb⟩
theorem snoc_all {p : Value -> Prop} {xs : List Value} (h : ∀ x ∈ xs, p x) {v : Value} (hv : p v) : ∀ x ∈ xs ++ [v], p x := fun x hx => by
 rcases List.mem_append.1 hx with k | k
 ·exact h x k
 rw [List.mem_singleton.1 k]; exact hv
theorem new_or {v v' vo : Value} {m : Nat} (hv : v'.ownBlock = v.ownBlock ∨ v'.ownBlock = some m) (h : ∀ g, v.ownBlock = some g -> vo.ownBlock ≠ some g) (hlt : ∀ g, vo.ownBlock = some g -> g < m) : ∀ g, v'.ownBlock = some g -> vo.ownBlock ≠ some g := fun g hg ho => by
 rcases hv with e | e
 ·exact h g (e ▸ hg) ho
 rw [e] at hg
 injection hg with hg
 have := hlt g ho
 omega
theorem Q3.pushD (h : Q3 pw vdf n d vu vdo vme vwa at_ er W5 w vD nD vM nM vW nW) {xs : List Value} (ho : w.ownsRow pw 4 1 vD nD xs) (hx : ∀ x ∈ xs, isB x) {v' : Value} {b : Bool} (ho' : w'.ownsRow pw 4 1 v' (nD + 1) (xs ++ [.bool b])) (hg : w.grownBy w' vD.ownBlock) (hv : v'.ownBlock = vD.ownBlock ∨ v'.ownBlock = some w.heap.size) : Q3 pw vdf n d vu vdo vme vwa at_ er W5 w' v' (nD + 1) vM nM vW nW := by
 obtain ⟨rows, k1, k2⟩ := h.un
 obtain ⟨ys, m1, m2⟩ := h.mn
 obtain ⟨zs, q1, q2⟩ := h.wn
 exact ⟨Blk.grown h.wk hg fun e => own_ne ho h.wk (by decide) e.symm, ⟨rows, own_grown k1 hg (fun g hg => own_ne2 k1 ho (by decide) g hg), k2⟩, ⟨_, ho', snoc_all hx ⟨b, rfl⟩⟩, ⟨ys, own_grown m1 hg (fun g hg => own_ne2 m1 ho (by decide) g hg), m2⟩, ⟨zs, own_grown q1 hg (fun g hg e => h.ne g e hg), q2⟩, new_or hv h.ne fun g hg => (q1.lt g hg).2, h.n_lt, h.d_le, h.tf.grown hg fun g hg => .inr ⟨(ho.lt g hg).1, _, _, _, (own_typed ho g hg).choose_spec, rfl⟩⟩
theorem Q3.pushM (h : Q3 pw vdf n d vu vdo vme vwa at_ er W5 w vD nD vM nM vW nW) {xs : List Value} (ho : w.ownsRow pw 3 1 vM nM xs) (hx : ∀ x ∈ xs, isI x) {v' : Value} {z : Int} (ho' : w'.ownsRow pw 3 1 v' (nM + 1) (xs ++ [.int .i64 z])) (hg : w.grownBy w' vM.ownBlock) : Q3 pw vdf n d vu vdo vme vwa at_ er W5 w' vD nD v' (nM + 1) vW nW := by
 obtain ⟨rows, k1, k2⟩ := h.un
 obtain ⟨ys, m1, m2⟩ := h.dn
 obtain ⟨zs, q1, q2⟩ := h.wn
 exact ⟨Blk.grown h.wk hg fun e => own_ne ho h.wk (by decide) e.symm, ⟨rows, own_grown k1 hg (fun g hg => own_ne2 k1 ho (by decide) g hg), k2⟩, ⟨ys, own_grown m1 hg (fun g hg => own_ne2 m1 ho (by decide) g hg), m2⟩, ⟨_, ho', snoc_all hx ⟨z, rfl⟩⟩, ⟨zs, own_grown q1 hg (fun g hg => own_ne2 q1 ho (by decide) g hg), q2⟩, h.ne, h.n_lt, h.d_le, h.tf.grown hg fun g hg => .inr ⟨(ho.lt g hg).1, _, _, _, (own_typed ho g hg).choose_spec, rfl⟩⟩
theorem Q3.pushW (h : Q3 pw vdf n d vu vdo vme vwa at_ er W5 w vD nD vM nM vW nW) {xs : List Value} (ho : w.ownsRow pw 4 1 vW nW xs) (hx : ∀ x ∈ xs, isB x) {v' : Value} {b : Bool} (ho' : w'.ownsRow pw 4 1 v' (nW + 1) (xs ++ [.bool b])) (hg : w.grownBy w' vW.ownBlock) (hv : v'.ownBlock = vW.ownBlock ∨ v'.ownBlock = some w.heap.size) : Q3 pw vdf n d vu vdo vme vwa at_ er W5 w' vD nD vM nM v' (nW + 1) := by
 obtain ⟨rows, k1, k2⟩ := h.un
 obtain ⟨ys, m1, m2⟩ := h.dn
 obtain ⟨zs, q1, q2⟩ := h.mn
 exact ⟨Blk.grown h.wk hg fun e => own_ne ho h.wk (by decide) e.symm, ⟨rows, own_grown k1 hg (fun g hg => own_ne2 k1 ho (by decide) g hg), k2⟩, ⟨ys, own_grown m1 hg (fun g hg => h.ne g hg), m2⟩, ⟨zs, own_grown q1 hg (fun g hg => own_ne2 q1 ho (by decide) g hg), q2⟩, ⟨_, ho', snoc_all hx ⟨b, rfl⟩⟩, (fun g hg e => new_or hv (fun g hg e => h.ne g e hg) (fun g hg => (m1.lt g hg).2) g e hg), h.n_lt, h.d_le, h.tf.grown hg fun g hg => .inr ⟨(ho.lt g hg).1, _, _, _, (own_typed ho g hg).choose_spec, rfl⟩⟩
theorem Q3.stored (h : Q3 pw vdf n d vu vdo vme vwa at_ er W5 w vD (n + 1) vM (n + 1) vW (n + 1)) : WIn pw vdf (n + 1) d (((w.setCell ⟨pw, 2, none⟩ vD).setCell ⟨pw, 3, none⟩ vM).setCell ⟨pw, 4, none⟩ vW) vu vD vM vW at_ er /\ TF XW pw W5 (((w.setCell ⟨pw, 2, none⟩ vD).setCell ⟨pw, 3, none⟩ vM).setCell ⟨pw, 4, none⟩ vW) := by
 have k2 := Blk.set_ h.wk 2 vD
 have k3 := Blk.set_ k2 3 vM
 have k4 := Blk.set_ k3 4 vW
 have far : ∀ {e sz v m xs}, w.ownsRow pw e sz v m xs -> 88 ≠ e -> (((w.setCell ⟨pw, 2, none⟩ vD).setCell ⟨pw, 3, none⟩ vM).setCell ⟨pw, 4, none⟩ vW).ownsRow pw e sz v m xs := fun ho he => own_far (own_far (own_far ho (own_ne ho h.wk he) 2 _) (own_ne ho h.wk he) 3 _) (own_ne ho h.wk he) 4 _
 exact ⟨⟨k4, h.un.imp fun _ q => ⟨far q.1 (by decide), q.2⟩, h.dn.imp fun _ q => ⟨far q.1 (by decide), q.2⟩, h.mn.imp fun _ q => ⟨far q.1 (by decide), q.2⟩, h.wn.imp fun _ q => ⟨far q.1 (by decide), q.2⟩, h.ne, h.n_lt, h.d_le⟩, ((h.tf.setCell (p := ⟨pw, 2, none⟩) (.inr ⟨Nat.le_refl _, _, _, _, h.wk, rfl⟩) vD).setCell (p := ⟨pw, 3, none⟩) (.inr ⟨Nat.le_refl _, _, _, _, k2, rfl⟩) vM).setCell (p := ⟨pw, 4, none⟩) (.inr ⟨Nat.le_refl _, _, _, _, k3, rfl⟩) vW⟩
end
def putL : List Value -> Nat -> List Value -> List Value
 | xs, _, [] => xs
 | xs, o, v :: r => putL (xs.set o v) (o + 1) r
theorem own_put {base sz n g cap : Nat} {e : TypeId} : ∀ (vs : List Value) (o : Nat) (w : World) (xs : List Value), w.ownsRow base e sz (.slice (some ⟨g, 0, none⟩) n cap) n xs -> (w.setCells g o vs).ownsRow base e sz (.slice (some ⟨g, 0, none⟩) n cap) n (putL xs o vs)
 | [], _, _, _, h => h
 | v :: r, o, w, xs, h => by
  rw [World.setCells, putL];exact own_put r (o + 1) _ _ (h.stored o v).1
theorem set_get_self {α : Type} : ∀ {l : List α} {i : Nat} {r : α}, l[i]? = some r -> l.set i r = l
 | [], _, _, h => by simp at h
 | q :: l, 0, r, h => by
  obtain rfl : q = r := by simpa using h
  rfl
 | q :: l, i + 1, r, h => by rw [List.set_cons_succ, set_get_self (by simpa using h)]
theorem flatten_put {sz i : Nat} : ∀ (vs : List Value) (o : Nat) (l : List (List Value)) (r : List Value), o + vs.length <= sz -> (∀ q ∈ l, q.length = sz) -> l[i]? = some r -> (l.set i (putL r o vs)).flatten = putL l.flatten (i * sz + o) vs
 | [], o, l, r, _, _, hi => by rw [putL, putL, set_get_self hi]
 | v :: vs, o, l, r, ho, hl, hi => by
  rw [List.length_cons] at ho;have hil := (List.getElem?_eq_some_iff.1 hi).1;rw [putL, putL, <- flatten_set (show o < sz by omega) hl hi, show i * sz + o + 1 = i * sz + (o + 1) by omega, <- flatten_put vs (o + 1) (l.set i (r.set o v)) (r.set o v) (by omega) (fun q hq => ?_) (by rw [List.getElem?_set_self hil]), List.set_set];rcases List.mem_or_eq_of_mem_set hq with k | k
  ·exact hl q k
  rw [k, List.length_set]; exact hl r (List.mem_of_getElem? hi)
section
variable {pw n d : Nat} {vdf vu vdo vme vwa : Value} {at_ er : Int} {w w' : World}
theorem WIn.putU {gu cu : Nat} (h : WIn pw vdf n d w (.slice (some ⟨gu, 0, none⟩) n cu) vdo vme vwa at_ er) {j : Nat} (hj : j < n) (o : Nat) (vs : List Value) (ho : o + vs.length <= 18) (hr : ∀ r, UnitRow r -> UnitRow (putL r o vs)) :
  WIn pw vdf n d (w.setCells gu (j * 18 + o) vs) (.slice (some ⟨gu, 0, none⟩) n cu) vdo vme vwa at_ er /\ TF XW pw w (w.setCells gu (j * 18 + o) vs) /\ pw <= gu := by
 obtain ⟨rows, h1, h2, h3⟩ := h.un
 obtain ⟨cs, hb⟩ := own_typed h1 gu rfl
 have hB : Blk w gu 35 cs := hb
 have hpw : pw ≠ gu := fun e => by subst e; exact Blk.ne_ h.wk hB (by decide) rfl
 have hge : pw <= gu := (h1.lt gu rfl).1
 have hjl : j < rows.length := by omega
 have hrj := h3 _ (List.getElem_mem hjl)
 have far : ∀ {e sz v m xs}, w.ownsRow pw e sz v m xs -> 35 ≠ e -> (w.setCells gu (j * 18 + o) vs).ownsRow pw e sz v m xs := fun ho he => own_farC ho (own_ne ho hB he) _ _
 refine ⟨⟨Blk.farC h.wk hpw _ _, ⟨rows.set j (putL rows[j] o vs), ?_, by rw [List.length_set]; exact h2, fun q hq => ?_⟩, h.dn.imp fun _ q => ⟨far q.1 (by decide), q.2⟩, h.mn.imp fun _ q => ⟨far q.1 (by decide), q.2⟩, h.wn.imp fun _ q => ⟨far q.1 (by decide), q.2⟩, h.ne, h.n_le, h.d_le⟩, ?_, hge⟩
 ·rw [flatten_put vs o rows rows[j] ho (fun q hq => (h3 q hq).len) (List.getElem?_eq_getElem hjl)];exact own_put vs _ w _ h1
 ·rcases List.mem_or_eq_of_mem_set hq with k | k
  ·exact h3 q k
  rw [k]; exact hr _ hrj
 obtain ⟨e1, e2, e3, e4⟩ := setCells_same (g := gu) vs (j * 18 + o) w
 exact ⟨e1, e2, e3, Nat.le_of_eq e4.symm, fun b hl hc => setCells_far vs _ w fun k => by
  subst k;rcases hc with hc | ⟨cs', t', fr', hc, hx⟩
  ·omega
  have hB' : w.heap[b]? = some (.cells cs 35 (0, 0)) := hB;rw [hB'] at hc;injection hc with hc
  injection hc with _ e5
  rw [<- e5] at hx; cases hx⟩
theorem UnitRow.body (A : Option Addr) (m c : Nat) : ∀ r, UnitRow r -> UnitRow (putL r 17 [.slice A m c]) := fun r h => by
 obtain ⟨nm, ⟨f1, f2, f3, f4, f5, f6, f7, f8⟩, ⟨t1, t2, t3, t4, t5, t6, t7, t8⟩, A0, n0, c0, rfl, ht⟩ := h
 exact ⟨nm, ⟨f1, f2, f3, f4, f5, f6, f7, f8⟩, ⟨t1, t2, t3, t4, t5, t6, t7, t8⟩, A, m, c, rfl, ht⟩
theorem UnitRow.to_ (s : St) (hs : s.ok) : ∀ r, UnitRow r -> UnitRow (putL r 9 s.l) := fun r h => by
 obtain ⟨nm, ⟨f1, f2, f3, f4, f5, f6, f7, f8⟩, ⟨t1, t2, t3, t4, t5, t6, t7, t8⟩, A0, n0, c0, rfl, ht⟩ := h
 exact ⟨nm, ⟨f1, f2, f3, f4, f5, f6, f7, f8⟩, s, A0, n0, c0, rfl, hs⟩
theorem WIn.tfD {gd cd : Nat} (h : WIn pw vdf n d w vu (.slice (some ⟨gd, 0, none⟩) n cd) vme vwa at_ er) (j : Nat) (u : Value) : TF XW pw w (w.setCell ⟨gd, j, none⟩ u) := by
 obtain ⟨xs, h1, _⟩ := h.dn
 exact TF.refl.setCell (p := ⟨gd, j, none⟩) (.inr ⟨(h1.lt gd rfl).1, _, _, _, (own_typed h1 gd rfl).choose_spec, rfl⟩) u
theorem WIn.tfDeep (h : WIn pw vdf n d w vu vdo vme vwa at_ er) (u : Value) : TF XW pw w (w.setCell ⟨pw, 5, none⟩ u) := TF.refl.setCell (p := ⟨pw, 5, none⟩) (.inr ⟨Nat.le_refl _, _, _, _, h.wk, rfl⟩) u
theorem WIn.body_at {gu cu : Nat} (h : WIn pw vdf n d w (.slice (some ⟨gu, 0, none⟩) n cu) vdo vme vwa at_ er) {j : Nat} (hj : j < n) (u : Value) : (w.setCells gu (j * 18 + 17) [u]).cell? ⟨gu, j * 18 + 17, none⟩ = some u := by
 obtain ⟨nm, f, t, A, m, c, _, _, _, _, h5⟩ := h.row hj
 exact World.cell?_setCell_same _ _ _ h5
theorem WIn.thereU {gu cu : Nat} (h : WIn pw vdf n d w (.slice (some ⟨gu, 0, none⟩) n cu) vdo vme vwa at_ er) {j : Nat} (hj : j < n) (o m : Nat) (ho : o + m <= 18) : w.there gu (j * 18 + o) m := fun i hi => by
 obtain ⟨rows, h1, h2, h3⟩ := h.un
 have hle : (j + 1) * 18 <= n * 18 := Nat.mul_le_mul_right _ hj
 have hlt : j * 18 + o + i < n * 18 := by omega
 exact ⟨by rw [h1.cellAt (j * 18 + o + i) hlt, List.getElem?_eq_getElem (by rw [h1.1]; exact hlt)]; rfl, h1.frozenAt _⟩
theorem cell_out {gu : Nat} {w : World} {u : Value} {j : Nat} (vs : List Value) (hl : vs.length = 8) (hc : w.cell? ⟨gu, j * 18 + 17, none⟩ = some u) : (w.setCells gu (j * 18 + 9) vs).cell? ⟨gu, j * 18 + 17, none⟩ = some u := by
 rw [World.cell?_setCells_out gu vs (j * 18 + 9) w ⟨gu, j * 18 + 17, none⟩ fun _ _ => .inr (by show j * 18 + 9 + vs.length <= j * 18 + 17; omega)]
 exact hc
end
section
variable {Q : Exit -> Act -> World -> Prop} {a : Act} {w : World} {oi : Oper} {K : Act -> World -> Prop}
end
theorem own_less {w : World} {base b1 sz n : Nat} {e : TypeId} {v : Value} {xs : List Value} (h : w.ownsRow base e sz v n xs) (hb : b1 <= base) : w.ownsRow b1 e sz v n xs := by
 refine ⟨h.1, ?_⟩
 rcases h.2 with h0 | ⟨g, c, cur, e, hg, h3⟩
 ·exact .inl h0
 exact .inr ⟨g, c, cur, e, Nat.le_trans hb hg, h3⟩
theorem valH {ops : Array Oper} {Q : Exit -> Act -> World -> Prop} {md : Region.Mode} {S : World -> Prop} {fuel : Nat} {listed : Array Bool} {a : Act} {w : World} {oi : Oper} {rs : List Nat} (i : Nat) (d : Option Tmp) (hi : ops[i]? = some oi) (hd : oi.dst = d) (hw : Region.wanted oi (yielded ops a.tmps) = true) (v : Value) (w' : World) (hrun : (execOp a.eval oi).run Tryz.prog w = .ok (.value v) w')
  (h : S w' /\ wpAnyH Tryz.prog md ops Q S fuel (listed.setIfInBounds i true) (a.put d v) w') (hs : AllReadyH Tryz.prog md ops Q S fuel listed a w rs) : AllReadyH Tryz.prog md ops Q S fuel listed a w (i :: rs) :=
 AllReadyH.cons hi (fun K hK => by
  rw [if_pos hw];unfold Oper.wp;rw [hrun];subst hd;exact hK.out _ _ h.1 fun _ => h.2) hs
theorem storeAtH {ops : Array Oper} {Q : Exit -> Act -> World -> Prop} {md : Region.Mode} {S : World -> Prop} {fuel : Nat} {listed : Array Bool} {a : Act} {w : World} {oi : Oper} {rs : List Nat} (i : Nat) {g o : Nat} {ty : TypeId} {l : List Value} (hi : ops[i]? = some oi) (hd : oi.dst = none) (hw : Region.wanted oi (yielded ops a.tmps) = true) (x y : Operand) (ho : oi.op = .store ty x y) (hx : a.eval x = .pointer (some ⟨g, o, none⟩)) (hy : a.eval y = .agg l.toArray)
  (ht : w.there g o l.length) (h1 : l.all (·.oneCell') = true) (hinf : (Tryz.prog.info? ty).map (·.size) = some l.length)
  (h : S (w.setCells g o l) /\ wpAnyH Tryz.prog md ops Q S fuel (listed.setIfInBounds i true) a (w.setCells g o l)) (hs : AllReadyH Tryz.prog md ops Q S fuel listed a w rs) : AllReadyH Tryz.prog md ops Q S fuel listed a w (i :: rs) :=
 AllReadyH.cons hi (fun K hK => by
  rw [if_pos hw];refine wp_store_mid ty x y ho g o l.toArray hx hy (by simpa using ht) (by simpa using hinf) (by simpa using h1) ?_;rw [hd];exact hK.out _ _ (by simpa using h.1) fun _ => by simpa [Act.put] using h.2) hs
structure U17 (pt pw : Nat) (vdf : Value) (w : World) (s : St) (l : List Tn) (n1 d1 : Nat) (vb : Value) (s2 : St) (b2 : Bool) (wx : World) : Prop where
 ok : s2.ok
 ns : NS pt pw vdf [] w s (.slice none 0 0) [] wx
 wk : WkX pw vdf wx
 rows : ∃ rows : List (List Value), wx.ownsRow pw 52 9 vb rows.length rows.flatten /\ rows.length <= l.length /\ ∀ r ∈ rows, NRow pw wx l r
 wi : b2 = true -> ∃ n', n1 <= n' /\ WI pw vdf n' d1 wx
structure U18 (pt pw : Nat) (vdf : Value) (w : World) (s : St) (l : List Tn) (n1 d1 : Nat) (vb : Value) (s2 : St) (b2 : Bool) (gt : Nat) (cs : Array Value) (wx : World) : Prop where
 u : U17 pt pw vdf w s l n1 d1 vb s2 b2 wx
 gt_lt : pt + 1 < gt
 blk : Blk wx gt 32 cs
section
variable {pt pw n1 d1 gt : Nat} {vdf vb : Value} {w wx w3 : World} {s s2 : St} {l : List Tn} {b2 : Bool} {cs : Array Value}
theorem U17.below (h : U17 pt pw vdf w s l n1 d1 vb s2 b2 wx) (hb : Below wx.heap.size wx w3) : U17 pt pw vdf w s l n1 d1 vb s2 b2 w3 := by
 obtain ⟨rows, h1, h2, h3⟩ := h.rows
 refine ⟨h.ok, h.ns.below hb, h.wk.below hb, ⟨rows, own_below h1 hb, h2, fun r hr => (h3 r hr).keep (hb.mono (Nat.le_of_lt h.wk.lt))⟩, fun k => ?_⟩
 obtain ⟨n', h4, h5⟩ := h.wi k
 exact ⟨n', h4, h5.below hb⟩
theorem U17.of {vdf : Value} {W : World} {rows : List (List Value)} (hN : NS pt pw vdf [] w s (.slice none 0 0) [] W) (hok : s2.ok) (ht : TF XW pw W w3) (hk : WkX pw vdf w3) (h1 : w3.ownsRow W.heap.size 52 9 vb rows.length rows.flatten) (h2 : rows.length <= l.length) (h3 : ∀ r ∈ rows, NRow pw W l r) (hwi : b2 = true -> ∃ n', n1 <= n' /\ WI pw vdf n' d1 w3) : U17 pt pw vdf w s l n1 d1 vb s2 b2 w3 := by
 have hle : pw <= W.heap.size := by have := hN.lt; have := hN.pw_lt; omega
 exact ⟨hok, hN.step ht, hk, ⟨rows, own_less h1 hle, h2, fun r hr => (h3 r hr).keep (ht.to_below hle)⟩, hwi⟩
theorem U17.alloc (h : U17 pt pw vdf w s l n1 d1 vb s2 b2 wx) (cs : Array Value) : U18 pt pw vdf w s l n1 d1 vb s2 b2 wx.heap.size cs (wx.alloc (.cells cs 32)) :=
 ⟨h.below (alloc_below _ _), h.ns.lt, Blk.new _ _ _⟩
theorem U18.put (h : U18 pt pw vdf w s l n1 d1 vb s2 b2 gt cs wx) (hc : cs.size = 8) : U18 pt pw vdf w s l n1 d1 vb s2 b2 gt s2.l.toArray (wx.setCells gt 0 s2.l) := by
 have hp := h.u.ns.pts
 have hlt := h.gt_lt
 have hpw := h.u.ns.pw_lt
 obtain ⟨rows, h1, h2, h3⟩ := h.u.rows
 have hne : pw ≠ gt := by omega
 have hb : Below pw wx (wx.setCells gt 0 s2.l) := by
  obtain ⟨e1, e2, e3, e4⟩ := setCells_same (g := gt) s2.l 0 wx;exact ⟨e1, e2, e3, Nat.le_of_eq e4.symm, fun k hk => setCells_far s2.l 0 wx (by omega)⟩
 refine ⟨⟨h.u.ok, h.u.ns.farC hlt (by simp [Value.ownBlock]) _ _, h.u.wk.farC hne _ _, ⟨rows, own_farC h1 (own_ne h1 h.blk (by decide)) _ _, h2, fun r hr => (h3 r hr).keep hb⟩, fun k => ?_⟩, hlt, h.blk.put (vs := s2.l) hc⟩
 obtain ⟨n', h4, h5⟩ := h.u.wi k
 exact ⟨n', h4, h5.farC h.blk rfl _ _⟩
end
structure U20 (pt pw : Nat) (vdf : Value) (w : World) (s : St) (l : List Tn) (n' d1 : Nat) (vb : Value) (s2 : St) (gt : Nat) (vu vdo vme vwa : Value) (at_ er : Int) (wx : World) : Prop where
 ok : s2.ok
 ns : NS pt pw vdf [] w s (.slice none 0 0) [] wx
 gt_lt : pt + 1 < gt
 blk : Blk wx gt 32 s2.l.toArray
 rows : ∃ rows : List (List Value), wx.ownsRow pw 52 9 vb rows.length rows.flatten /\ rows.length <= l.length /\ ∀ r ∈ rows, NRow pw wx l r
 wk : WIn pw vdf n' d1 wx vu vdo vme vwa at_ er
section
variable {pt pw n' d1 d2 gt : Nat} {vdf vb vu vdo vme vwa : Value} {at_ er : Int} {w wx w3 : World} {s s2 : St} {l : List Tn}
theorem U20.step (h : U20 pt pw vdf w s l n' d1 vb s2 gt vu vdo vme vwa at_ er wx) (ht : TF XW pw wx w3) (hW : WIn pw vdf n' d2 w3 vu vdo vme vwa at_ er) : U20 pt pw vdf w s l n' d2 vb s2 gt vu vdo vme vwa at_ er w3 := by
 obtain ⟨rows, h1, h2, h3⟩ := h.rows
 exact ⟨h.ok, h.ns.step ht, h.gt_lt, h.blk.tf ht rfl, ⟨rows, own_tfX h1 ht rfl, h2, fun r hr => (h3 r hr).keep (ht.to_below (Nat.le_of_lt h.wk.lt))⟩, hW⟩
theorem U20.drew (h : U20 pt pw vdf w s l n' d1 vb s2 gt vu vdo vme vwa at_ er wx) : U20 pt pw vdf w s l n' d1 vb s2 gt vu vdo vme vwa at_ er wx.drew := h.step (TF.of_below (Below.refl _ _).drew) (h.wk.below (Below.refl _ _).drew)
theorem U20.putR (h : U20 pt pw vdf w s l n' d1 vb s2 gt vu vdo vme vwa at_ er wx) (s' : St) : U20 pt pw vdf w s l n' d1 vb s2 gt vu vdo vme vwa at_ er (wx.setCells (pt + 1) 0 s'.l) /\ Blk (wx.setCells (pt + 1) 0 s'.l) (pt + 1) 32 s'.l.toArray := by
 obtain ⟨hN, hR⟩ := h.ns.putR s'
 obtain ⟨R, hRs, hB⟩ := h.ns.blkR
 obtain ⟨rows, h1, h2, h3⟩ := h.rows
 have hpw := h.ns.pw_lt
 have hlt := h.gt_lt
 have hb : Below pw wx (wx.setCells (pt + 1) 0 s'.l) := by
  obtain ⟨e1, e2, e3, e4⟩ := setCells_same (g := pt + 1) s'.l 0 wx;exact ⟨e1, e2, e3, Nat.le_of_eq e4.symm, fun k hk => setCells_far s'.l 0 wx (by omega)⟩
 exact ⟨⟨h.ok, hN, hlt, h.blk.farC (by omega) _ _, ⟨rows, own_farC h1 (own_ne h1 hB (by decide)) _ _, h2, fun r hr => (h3 r hr).keep hb⟩, h.wk.farC hB rfl _ _⟩, hR⟩
theorem WI.u20 {n1 : Nat} {b2 : Bool} (h : U18 pt pw vdf w s l n1 d1 vb s2 b2 gt s2.l.toArray wx) (hW : WIn pw vdf n' d1 wx vu vdo vme vwa at_ er) : U20 pt pw vdf w s l n' d1 vb s2 gt vu vdo vme vwa at_ er wx := ⟨h.u.ok, h.u.ns, h.gt_lt, h.blk, h.u.rows, hW⟩
theorem U20.setBody {gu cu j : Nat} (h : U20 pt pw vdf w s l n' d1 vb s2 gt (.slice (some ⟨gu, 0, none⟩) n' cu) vdo vme vwa at_ er wx) (hj : j < n') (A : Option Addr) (m c : Nat) : U20 pt pw vdf w s l n' d1 vb s2 gt (.slice (some ⟨gu, 0, none⟩) n' cu) vdo vme vwa at_ er (wx.setCell ⟨gu, j * 18 + 17, none⟩ (.slice A m c)) /\ (wx.setCell ⟨gu, j * 18 + 17, none⟩ (.slice A m c)).cell? ⟨gu, j * 18 + 17, none⟩ = some (.slice A m c) := by
 obtain ⟨h1, h2, _⟩ := h.wk.putU hj 17 [.slice A m c] (Nat.le_of_eq rfl) (UnitRow.body A m c)
 exact ⟨h.step h2 h1, h.wk.body_at hj (.slice A m c)⟩
theorem U20.setTo {gu cu j : Nat} {u : Value} (h : U20 pt pw vdf w s l n' d1 vb s2 gt (.slice (some ⟨gu, 0, none⟩) n' cu) vdo vme vwa at_ er wx) (hj : j < n') (hc : wx.cell? ⟨gu, j * 18 + 17, none⟩ = some u) : U20 pt pw vdf w s l n' d1 vb s2 gt (.slice (some ⟨gu, 0, none⟩) n' cu) vdo vme vwa at_ er (wx.setCells gu (j * 18 + 9) s2.l) /\ (wx.setCells gu (j * 18 + 9) s2.l).cell? ⟨gu, j * 18 + 17, none⟩ = some u /\ wx.there gu (j * 18 + 9) s2.l.length := by
 obtain ⟨h1, h2, _⟩ := h.wk.putU hj 9 s2.l (by rw [St.len]; omega) (UnitRow.to_ s2 h.ok)
 exact ⟨h.step h2 h1, cell_out s2.l rfl hc, h.wk.thereU hj 9 8 (by decide)⟩
theorem U20.rest_ {n : Nat} (h : U20 pt pw vdf w s l n' d1 vb s2 gt vu vdo vme vwa at_ er wx) (hn : n < n') {gu cu : Nat} (hvu : vu = .slice (some ⟨gu, 0, none⟩) n' cu) (hc : wx.cell? ⟨gu, n * 18 + 17, none⟩ = some vb) : s2.ok /\ TF XW pw w wx /\ WkX pw vdf wx /\ (true = true -> ∃ n', n <= n' /\ WI pw vdf n' d1 wx /\
 (n = 0 -> ∃ vu vdo vme vwa at_ er g cap out, WIn pw vdf n' d1 wx vu vdo vme vwa at_ er /\ vu = .slice (some ⟨g, 0, none⟩) n' cap /\ wx.cell? ⟨g, 17, none⟩ = some out /\ ∃ rows : List (List Value), wx.ownsRow pw 52 9 out rows.length rows.flatten /\ rows.length <= l.length /\ ∀ r ∈ rows, NRow pw wx l r)) :=
 ⟨h.ok, h.ns.tf, h.wk.x, fun _ => ⟨n', Nat.le_of_lt hn, ⟨_, _, _, _, _, _, h.wk⟩, fun h0 => by
  subst h0;rw [Nat.zero_mul, Nat.zero_add] at hc;exact ⟨vu, vdo, vme, vwa, at_, er, gu, cu, vb, h.wk, hvu, hc, h.rows⟩⟩⟩
end
theorem literal04_any : ∀ (N : Nat) (k m : Int) (x : ByteArray) (l : List Vd) (ks : List ByteArray) (nl nk : Nat) (hnl : l.length = nl) (hnk : ks.length = nk) (hN : (Vd.mk k m x l ks).wt <= N) (hz : N <= 4194304) (Al Ak : Option Addr) (cl ck : Nat) (w : World) (hl : RowsV w (fun _ => True) 5 Al 0 (vdRows l)) (hk : RowsV w (fun _ => True) 1 Ak 0 (strRows ks)), Calls Tryz.prog 90 #[.agg #[.int .i64 k, .int .i64 m, .string x, .slice Al nl cl, .slice Ak nk ck]] w (PSz 1 (12 * (Vd.mk k m x l ks).wt) w) := by
 intro N
 induction N with
 | zero =>
  intro k m x l ks nl nk hnl hnk hN;have := (Vd.mk k m x l ks).wt_pos;omega
 | succ N ih =>
  intro k m x l ks nl nk hnl hnk hN hz Al Ak cl ck w hl hk;rw [Vd.wt] at hN ⊢;have hlen := vdsWt_len l;have hlen2 := strWt_len ks;have hnlz : nl <= 4194304 := by omega
  have hnkz : nk <= 4194304 := by omega
  have HIH := hid ih;have Hl := hid hl;have Hk := hid hk;have Hnl := hid hnl;have Hnk := hid hnk;have HP := hid (fun W => printS_any m W);clear ih hl hk hnl hnk;obtain ⟨W, hW⟩ := xE (w.alloc (.cells #[.int .i64 k, .int .i64 m, .string x, .slice Al nl cl, .slice Ak nk ck] 25));have hbw : Below w.heap.size w W := by rw [<- hW]; exact alloc_below _ _
  have HX : Hid (Blk W w.heap.size 25 #[.int .i64 k, .int .i64 m, .string x, .slice Al nl cl, .slice Ak nk ck]) := hid (by rw [<- hW]; exact Blk.new _ _ _);have Hb := hid hbw;obtain ⟨pt, hpt⟩ := xE w.heap.size;rw [hpt] at HX;clear hbw;obtain ⟨⟨c0, c1, c2, c3, c4⟩, -⟩ := blk5_cells HX.out;have z0 : (⟨#[]⟩ : ByteArray).size = 0 := rfl;have z1 : (⟨#[32]⟩ : ByteArray).size = 1 := rfl;have z2 : (⟨#[44]⟩ : ByteArray).size = 1 := rfl;have z3 : (⟨#[58]⟩ : ByteArray).size = 1 := rfl;have z4 : (⟨#[91]⟩ : ByteArray).size = 1 := rfl;have z5 : (⟨#[93]⟩ : ByteArray).size = 1 := rfl;have z6 : (⟨#[123]⟩ : ByteArray).size = 1 := rfl;have z7 : (⟨#[125]⟩ : ByteArray).size = 1 := rfl;obtain ⟨q0, hq0⟩ := xE (k == 0);obtain ⟨q1, hq1⟩ := xE (k == 1);obtain ⟨q2, hq2⟩ := xE (k == 2);obtain ⟨q3, hq3⟩ := xE (k == 3);obtain ⟨q5, hq5⟩ := xE (k == 5);obtain ⟨q6, hq6⟩ := xE (k == 6);have HQx := hid (fun W => quote_any x W (by omega));have HP0 := hid (fun W => print04_any 6 k 0 ⟨#[]⟩ [] [] 0 0 rfl rfl (by rw [Vd.wt]; simp only [strWt, vdsWt]; exact Nat.le_refl 6) (by omega) none none 0 0 W (by unfold vdRows RowsV; trivial) (by unfold strRows List.map RowsV; trivial));have e6 : 4 * (Vd.mk k 0 ⟨#[]⟩ [] []).wt = 24 := by rw [Vd.wt]; simp only [strWt, vdsWt]; rfl
  rw [e6] at HP0;go_enter Tryz.func90, Tryz.ntmps90;by_cases hq : q0 = true ∨ q1 = true ∨ q2 = true;case pos =>
   clear e6;cases q0 <;> cases q1 <;> cases q2;case false.false.false => exact absurd hq (by simp)
   all_goals (
    clear hq;go_wp2_with (go_at_call 92; refine (HP0.out _).mono ?_; rintro e w4 ⟨t2, rfl, ht2, hb4⟩)
    go_ret;exact ⟨_, rfl, by omega, Hb.out.trans (hb4.mono Hb.out.size)⟩)
  obtain rfl : q0 = false := by cases q0; rfl; exact absurd (.inl rfl) hq
  obtain rfl : q1 = false := by cases q1; rfl; exact absurd (.inr (.inl rfl)) hq
  obtain rfl : q2 = false := by cases q2; rfl; exact absurd (.inr (.inr rfl)) hq
  clear hq e6 HP0;cases q3;case true =>
   obtain ⟨qm, hqm⟩ := xE (decide (m < 0));cases qm
   all_goals (
    go_wp2_with (go_at_call 106; refine (HP.out _).mono ?_; rintro e w4 ⟨t2, rfl, ht2, hw4⟩; obtain rfl := hw4)
    go_ret;exact ⟨_, rfl, by first | omega | (simp only [ByteArray.size_append]; omega), Hb.out⟩)
  cases q5;case true =>
   have e6 : q6 = false := by
    rw [<- hq6];have := eq_of_beq hq5;subst this;rfl
   subst e6;go_upto_region 12 with fail
   all_goals (
    go_wp2_with fail
    go_loopw [3, 4] (fun o i wr => ∃ (j : Nat) (t : ByteArray), j <= nl /\ i = .int .i64 (j : Int) /\ o = .string t /\ t.size <= 12 * vdsWt (l.take j) + 12 * strWt (ks.take j) /\ Below W.heap.size W wr) (fun _ i _ => nl - (intOf i).toNat)
    case atStart => exact ⟨0, _, Nat.zero_le _, rfl, rfl, Nat.zero_le _, Below.refl _ _⟩
    obtain ⟨j, t, hj, rfl, rfl, ht, hb⟩ := hrel;obtain ⟨W3, rfl⟩ := xS wr;obtain ⟨⟨c0, c1, c2, c3, c4⟩, -⟩ := blk5_cells (HX.out.below hb HX.out.lt);have Hb3 := hid (Hb.out.trans (hb.mono Hb.out.size));have Hb23 := hid hb;clear hb;have hj0 : (0 : Int) <= (j : Int) := by omega
    by_cases hlt : j < nl
    ·have hli : (j : Int) < (nl : Int) := by omega
     have hjl : j < l.length := by have := Hnl.out; omega
     obtain ⟨ad, rfl, hadl, hrow⟩ := rowVd (RowsV.below Hl.out Hb3.out) hjl;have hwt := vdsWt_mem (List.getElem_mem hjl);have hvt := vdsWt_take hjl;obtain ⟨v, hv⟩ := xE l[j];rw [hv] at hrow hwt hvt;obtain ⟨vk, vm, vx, vl, vks⟩ := v;obtain ⟨a, ha⟩ := xE vl.length;obtain ⟨b, hb⟩ := xE vks.length;obtain ⟨Bl, dl, Bk, dk, v0, v1, v2, v3, v4, rl, rk⟩ := Vd.at_ hrow ha hb;have HC := hid (HIH.out vk vm vx vl vks a b ha hb (by omega) (by omega) Bl Bk dl dk W3 rl rk);have hst := strWt_take' ks j;have htz : t.size <= 104857600 := by have := vdsWt_take_le l j; have := strWt_take_le ks j; omega
     have Hwt := hid hwt;have Hvt := hid hvt;have Hst := hid hst;have Ht := hid ht;have Rl := hid rl;have Rk := hid rk;have Ha := hid ha;have Hbb := hid hb;clear hrow rl rk ha hb hv hwt hvt hst ht;have hcases : (j = 0 ∨ 0 < j) := by omega
     rcases hcases with hj1 | hj1
     ·have hj1i : ¬ ((0 : Int) < (j : Int)) := (by omega); clear hj1;go_wp2_with (first | (go_at_call 90; refine HC.out.mono ?_; rintro e w4 ⟨t2, rfl, ht2, hb4⟩; have h2z : t2.size <= 104857600 := (by have := Hwt.out; omega)))
      go_roundw
      case rel => exact ⟨j + 1, _, by omega, by go_num, rfl, by have h1 := Hwt.out; have h2 := Hvt.out; have h3 := Hst.out; have h4 := Ht.out; simp only [ByteArray.size_append]; omega, Hb23.out.trans (hb4.mono Hb23.out.size)⟩
      simp [intOf]; omega
     have hj1i : (0 : Int) < (j : Int) := by omega
     go_wp2_with (first | (go_at_call 90; refine HC.out.mono ?_; rintro e w4 ⟨t2, rfl, ht2, hb4⟩; have h2z : t2.size <= 104857600 := (by have := Hwt.out; omega)))
     go_roundw
     case rel => exact ⟨j + 1, _, by omega, by go_num, rfl, by have h1 := Hwt.out; have h2 := Hvt.out; have h3 := Hst.out; have h4 := Ht.out; simp only [ByteArray.size_append]; omega, Hb23.out.trans (hb4.mono Hb23.out.size)⟩
     simp [intOf]; omega
    have hli : ¬ ((j : Int) < (nl : Int)) := by omega
    have hle := strWt_take_le ks j;have hle2 : vdsWt (l.take j) <= vdsWt l := by rw [List.take_of_length_le (by have := Hnl.out; omega)]; exact Nat.le_refl _
    obtain rfl : j = nl := by omega
    go_wp2_with fail
    all_goals (
     go_ret;exact ⟨_, rfl, by simp only [ByteArray.size_append]; omega, Hb3.out⟩))
  cases q6;case false =>
   go_wp2_with (go_at_call 107; refine (HQx.out _).mono ?_; rintro e w4 ⟨t2, rfl, ht2, hb4⟩)
   go_ret;exact ⟨_, rfl, by omega, Hb.out.trans (hb4.mono Hb.out.size)⟩
  go_upto_region 12 with fail
  all_goals (
   go_wp2_with fail
   go_loopw [3, 4] (fun o i wr => ∃ (j : Nat) (t : ByteArray), j <= nl /\ i = .int .i64 (j : Int) /\ o = .string t /\ t.size <= 12 * vdsWt (l.take j) + 12 * strWt (ks.take j) /\ Below W.heap.size W wr) (fun _ i _ => nl - (intOf i).toNat)
   case atStart => exact ⟨0, _, Nat.zero_le _, rfl, rfl, Nat.zero_le _, Below.refl _ _⟩
   obtain ⟨j, t, hj, rfl, rfl, ht, hb⟩ := hrel;obtain ⟨W3, rfl⟩ := xS wr;obtain ⟨⟨c0, c1, c2, c3, c4⟩, -⟩ := blk5_cells (HX.out.below hb HX.out.lt);have Hb3 := hid (Hb.out.trans (hb.mono Hb.out.size));have Hb23 := hid hb;clear hb;have hj0 : (0 : Int) <= (j : Int) := by omega
   by_cases hlt : j < nl
   ·have hli : (j : Int) < (nl : Int) := by omega
    have hjl : j < l.length := by have := Hnl.out; omega
    obtain ⟨ad, rfl, hadl, hrow⟩ := rowVd (RowsV.below Hl.out Hb3.out) hjl;have hwt := vdsWt_mem (List.getElem_mem hjl);have hvt := vdsWt_take hjl;obtain ⟨v, hv⟩ := xE l[j];rw [hv] at hrow hwt hvt;obtain ⟨vk, vm, vx, vl, vks⟩ := v;obtain ⟨a, ha⟩ := xE vl.length;obtain ⟨b, hb⟩ := xE vks.length;obtain ⟨Bl, dl, Bk, dk, v0, v1, v2, v3, v4, rl, rk⟩ := Vd.at_ hrow ha hb;have HC := hid (HIH.out vk vm vx vl vks a b ha hb (by omega) (by omega) Bl Bk dl dk W3 rl rk);have hst := strWt_take' ks j;have htz : t.size <= 104857600 := by have := vdsWt_take_le l j; have := strWt_take_le ks j; omega
    have Hwt := hid hwt;have Hvt := hid hvt;have Hst := hid hst;have Ht := hid ht;have Rl := hid rl;have Rk := hid rk;have Ha := hid ha;have Hbb := hid hb;clear hrow rl rk ha hb hv hwt hvt hst ht;have hcases : (j = 0 ∨ 0 < j) := by omega
    by_cases hkt : j < nk
    ·have hki : (j : Int) < (nk : Int) := by omega
     have hjk : j < ks.length := by have := Hnk.out; omega
     obtain ⟨ak, rfl, _, hakl, hrow⟩ := RowsV.get (f := fun x => [Dt.str x]) (RowsV.below Hk.out Hb3.out) hjk;have hkw := strWt_take hjk;obtain ⟨d, hd⟩ := xE ks[j];have hdz : d.size <= 4194304 := by have := strWt_mem (List.getElem_mem hjk); rw [hd] at this; omega
     rw [hd] at hrow hkw;have a0 := Str.at_ hrow;simp only [Nat.mul_one] at a0;have Hkw := hid hkw;have HQ := hid (fun W => quote_any d W (by omega));have HX3 := hid (HX.out.below Hb23.out HX.out.lt);have HC0 : Hid (∀ W', Below W3.heap.size W3 W' -> _) := hid (fun W' hb' => HIH.out vk vm vx vl vks a b Ha.out Hbb.out (by have := Hwt.out; omega) (by omega) Bl Bk dl dk W' (RowsV.below Rl.out hb') (RowsV.below Rk.out hb'));clear hrow hd hkw HC;rcases hcases with hj1 | hj1
     ·have hj1i : ¬ ((0 : Int) < (j : Int)) := (by omega); clear hj1;go_wp2_with (first | (go_at_call 90; refine HC.out.mono ?_; rintro e w4 ⟨t2, rfl, ht2, hb4⟩; have h2z : t2.size <= 104857600 := (by have := Hwt.out; omega)) | (go_at_call 107; refine (HQ.out _).mono ?_; rintro e w5 ⟨t5, rfl, ht5, hb5⟩; have h5z : t5.size <= 104857600 := (by omega); have HC := hid (HC0.out w5 hb5); clear HC0; have Hb5 := hid hb5; clear hb5; have v0 := (Hb5.out.cell (p := ad.add (j * 5)) (by rw [block_of_add]; exact hadl)).trans v0; have v1 := (Hb5.out.cell (p := ⟨(ad.add (j * 5)).block, (ad.add (j * 5)).off + 1, none⟩) (by show (ad.add (j * 5)).block < _; rw [block_of_add]; exact hadl)).trans v1; have v2 := (Hb5.out.cell (p := ⟨(ad.add (j * 5)).block, (ad.add (j * 5)).off + 2, none⟩) (by show (ad.add (j * 5)).block < _; rw [block_of_add]; exact hadl)).trans v2; have v3 := (Hb5.out.cell (p := ⟨(ad.add (j * 5)).block, (ad.add (j * 5)).off + 3, none⟩) (by show (ad.add (j * 5)).block < _; rw [block_of_add]; exact hadl)).trans v3; have v4 := (Hb5.out.cell (p := ⟨(ad.add (j * 5)).block, (ad.add (j * 5)).off + 4, none⟩) (by show (ad.add (j * 5)).block < _; rw [block_of_add]; exact hadl)).trans v4; have c3 := (Hb5.out.cell (p := ⟨pt, 3, none⟩) HX3.out.lt).trans c3; have c0 := (Hb5.out.cell (p := ⟨pt, 0, none⟩) HX3.out.lt).trans c0))
      go_roundw
      case rel => exact ⟨j + 1, _, by omega, by go_num, rfl, by have h1 := Hwt.out; have h2 := Hvt.out; have h3 := Hst.out; have h4 := Ht.out; have h5 := Hkw.out; simp only [ByteArray.size_append]; omega, (Hb23.out.trans (Hb5.out.mono Hb23.out.size)).trans (hb4.mono (Nat.le_trans Hb23.out.size Hb5.out.size))⟩
      simp [intOf]; omega
     have hj1i : (0 : Int) < (j : Int) := by omega
     go_wp2_with (first | (go_at_call 90; refine HC.out.mono ?_; rintro e w4 ⟨t2, rfl, ht2, hb4⟩; have h2z : t2.size <= 104857600 := (by have := Hwt.out; omega)) | (go_at_call 107; refine (HQ.out _).mono ?_; rintro e w5 ⟨t5, rfl, ht5, hb5⟩; have h5z : t5.size <= 104857600 := (by omega); have HC := hid (HC0.out w5 hb5); clear HC0; have Hb5 := hid hb5; clear hb5; have v0 := (Hb5.out.cell (p := ad.add (j * 5)) (by rw [block_of_add]; exact hadl)).trans v0; have v1 := (Hb5.out.cell (p := ⟨(ad.add (j * 5)).block, (ad.add (j * 5)).off + 1, none⟩) (by show (ad.add (j * 5)).block < _; rw [block_of_add]; exact hadl)).trans v1; have v2 := (Hb5.out.cell (p := ⟨(ad.add (j * 5)).block, (ad.add (j * 5)).off + 2, none⟩) (by show (ad.add (j * 5)).block < _; rw [block_of_add]; exact hadl)).trans v2; have v3 := (Hb5.out.cell (p := ⟨(ad.add (j * 5)).block, (ad.add (j * 5)).off + 3, none⟩) (by show (ad.add (j * 5)).block < _; rw [block_of_add]; exact hadl)).trans v3; have v4 := (Hb5.out.cell (p := ⟨(ad.add (j * 5)).block, (ad.add (j * 5)).off + 4, none⟩) (by show (ad.add (j * 5)).block < _; rw [block_of_add]; exact hadl)).trans v4; have c3 := (Hb5.out.cell (p := ⟨pt, 3, none⟩) HX3.out.lt).trans c3; have c0 := (Hb5.out.cell (p := ⟨pt, 0, none⟩) HX3.out.lt).trans c0))
     go_roundw
     case rel => exact ⟨j + 1, _, by omega, by go_num, rfl, by have h1 := Hwt.out; have h2 := Hvt.out; have h3 := Hst.out; have h4 := Ht.out; have h5 := Hkw.out; simp only [ByteArray.size_append]; omega, (Hb23.out.trans (Hb5.out.mono Hb23.out.size)).trans (hb4.mono (Nat.le_trans Hb23.out.size Hb5.out.size))⟩
     simp [intOf]; omega
    have hki : ¬ ((j : Int) < (nk : Int)) := by omega
    rcases hcases with hj1 | hj1
    ·have hj1i : ¬ ((0 : Int) < (j : Int)) := (by omega); clear hj1;go_wp2_with (first | (go_at_call 90; refine HC.out.mono ?_; rintro e w4 ⟨t2, rfl, ht2, hb4⟩; have h2z : t2.size <= 104857600 := (by have := Hwt.out; omega)))
     go_roundw
     case rel => exact ⟨j + 1, _, by omega, by go_num, rfl, by have h1 := Hwt.out; have h2 := Hvt.out; have h3 := Hst.out; have h4 := Ht.out; simp only [ByteArray.size_append]; omega, Hb23.out.trans (hb4.mono Hb23.out.size)⟩
     simp [intOf]; omega
    have hj1i : (0 : Int) < (j : Int) := by omega
    go_wp2_with (first | (go_at_call 90; refine HC.out.mono ?_; rintro e w4 ⟨t2, rfl, ht2, hb4⟩; have h2z : t2.size <= 104857600 := (by have := Hwt.out; omega)))
    go_roundw
    case rel => exact ⟨j + 1, _, by omega, by go_num, rfl, by have h1 := Hwt.out; have h2 := Hvt.out; have h3 := Hst.out; have h4 := Ht.out; simp only [ByteArray.size_append]; omega, Hb23.out.trans (hb4.mono Hb23.out.size)⟩
    simp [intOf]; omega
   have hli : ¬ ((j : Int) < (nl : Int)) := by omega
   have hle := strWt_take_le ks j;have hle2 : vdsWt (l.take j) <= vdsWt l := by rw [List.take_of_length_le (by have := Hnl.out; omega)]; exact Nat.le_refl _
   obtain rfl : j = nl := by omega
   go_wp2_with fail
   all_goals (
    go_ret;exact ⟨_, rfl, by simp only [ByteArray.size_append]; omega, Hb3.out⟩))
theorem escS_any (s : ByteArray) (w : World) (hs : s.size <= 4294967296) : Calls Tryz.prog 89 #[.string s] w (PS (20 * s.size) w) := by
 refine (refEscape06_any s w (by omega)).mono ?_
 rintro e w1 ⟨t, rfl, ht, hb⟩
 have h1 := repairL_len s
 have h2 := escA_len (repairL s.data.toList)
 have h3 := len_data t
 rw [ht.out] at h3
 exact ⟨t, rfl, by unfold escL at h3; omega, hb⟩
theorem styS2_any (s : ByteArray) (w : World) (hs : s.size <= 4294967296) : Calls Tryz.prog 111 #[.string s] w (PS (s.size + 100) w) := by
 refine (refStyle_any s w (by omega)).mono ?_
 rintro e w1 ⟨t, rfl, ht, hb⟩
 have h3 := len_data t
 have h4 := len_data s
 have h5 : sMark.length <= 100 := by decide
 rw [ht.out] at h3
 refine ⟨t, rfl, ?_, hb⟩
 unfold styleL at h3
 revert h3
 split
 all_goals (intro h3; omega)
theorem safe_any (esc kind : Int) (w : World) : Calls Tryz.prog 88 #[.int .i64 esc, .int .i64 kind] w (PB w) := by
 obtain ⟨e1, he1⟩ := xE (esc == 1)
 obtain ⟨e3, he3⟩ := xE (esc == 3)
 obtain ⟨e4, he4⟩ := xE (esc == 4)
 obtain ⟨e5, he5⟩ := xE (esc == 5)
 obtain ⟨e7, he7⟩ := xE (esc == 7)
 obtain ⟨e9, he9⟩ := xE (esc == 9)
 obtain ⟨e11, he11⟩ := xE (esc == 11)
 obtain ⟨e12, he12⟩ := xE (esc == 12)
 have hcases : kind = 7 ∨ kind = 8 ∨ kind = 9 ∨ kind = 10 ∨ kind = 11 ∨ ((kind == 7) = false /\ (kind == 8) = false /\ (kind == 9) = false /\ (kind == 10) = false /\ (kind == 11) = false) := by
  simp only [beq_eq_false_iff_ne, ne_eq];omega
 rcases hcases with rfl | rfl | rfl | rfl | rfl | ⟨h7, h8, h9, h10, h11⟩
 all_goals (
  go_enter Tryz.func88, Tryz.ntmps88;go_wp2_with fail
  all_goals (go_ret; exact ⟨_, rfl, rfl⟩))
theorem plain_any (esc : Int) (s : ByteArray) (w : World) (hs : s.size <= 4194332) : Calls Tryz.prog 91 #[.int .i64 esc, .string s] w (PS (240 * s.size + 4000) w) := by
 have HE := hid (fun t W (h : t.size <= 4294967296) => escS_any t W h)
 have HF := hid (fun W => filter_any s W (by omega))
 have HP := hid (fun q W => percent_any s q W (by omega))
 have HI := hid (fun W => inside_any s W (by omega))
 have HS := hid (fun W => styS2_any s W (by omega))
 obtain ⟨q1, hq1⟩ := xE (esc == 1)
 obtain ⟨q2, hq2⟩ := xE (esc == 2)
 obtain ⟨q3, hq3⟩ := xE (esc == 3)
 obtain ⟨q4, hq4⟩ := xE (esc == 4)
 obtain ⟨q5, hq5⟩ := xE (esc == 5)
 obtain ⟨q6, hq6⟩ := xE (esc == 6)
 obtain ⟨q8, hq8⟩ := xE (esc == 8)
 obtain ⟨q10, hq10⟩ := xE (esc == 10)
 obtain ⟨q11, hq11⟩ := xE (esc == 11)
 obtain ⟨q12, hq12⟩ := xE (esc == 12)
 go_enter Tryz.func91, Tryz.ntmps91
 cases q1
 case true =>
  go_wp2_with (go_at_call 89; refine (HE.out _ _ (by omega)).mono ?_; rintro e w5 ⟨t5, rfl, ht5, hb5⟩)
  go_ret;exact ⟨_, rfl, by omega, hb5⟩
 cases q2
 case true =>
  go_wp2_with (go_at_call 89; refine (HE.out _ _ (by omega)).mono ?_; rintro e w5 ⟨t5, rfl, ht5, hb5⟩)
  go_ret;exact ⟨_, rfl, by omega, hb5⟩
 cases q3
 case true =>
  go_wp2_with (go_at_call 89; refine (HE.out _ _ (by omega)).mono ?_; rintro e w5 ⟨t5, rfl, ht5, hb5⟩)
  go_ret;exact ⟨_, rfl, by omega, hb5⟩
 cases q4
 case true =>
  go_wp2_with (first | (go_at_call 89; refine (HE.out _ _ (by omega)).mono ?_; rintro e w5 ⟨t5, rfl, ht5, hb5⟩) | (go_at_call 108; refine (HF.out _).mono ?_; rintro e w4 ⟨t4, rfl, ht4, hb4⟩))
  go_ret;exact ⟨_, rfl, by omega, hb4.trans (hb5.mono hb4.size)⟩
 cases q5
 case true =>
  go_wp2_with (first | (go_at_call 89; refine (HE.out _ _ (by omega)).mono ?_; rintro e w5 ⟨t5, rfl, ht5, hb5⟩) | (go_at_call 109; refine (HP.out _ _).mono ?_; rintro e w4 ⟨t4, rfl, ht4, hb4⟩))
  go_ret;exact ⟨_, rfl, by omega, hb4.trans (hb5.mono hb4.size)⟩
 cases q6
 case true =>
  go_wp2_with (first | (go_at_call 89; refine (HE.out _ _ (by omega)).mono ?_; rintro e w5 ⟨t5, rfl, ht5, hb5⟩) | (go_at_call 109; refine (HP.out _ _).mono ?_; rintro e w4 ⟨t4, rfl, ht4, hb4⟩))
  go_ret;exact ⟨_, rfl, by omega, hb4.trans (hb5.mono hb4.size)⟩
 cases q8
 case true =>
  go_wp2_with (go_at_call 110; refine (HI.out _).mono ?_; rintro e w5 ⟨t5, rfl, ht5, hb5⟩)
  go_ret;exact ⟨_, rfl, by omega, hb5⟩
 cases q10
 case true =>
  go_wp2_with (first | (go_at_call 89; refine (HE.out _ _ (by omega)).mono ?_; rintro e w5 ⟨t5, rfl, ht5, hb5⟩) | (go_at_call 110; refine (HI.out _).mono ?_; rintro e w4 ⟨t4, rfl, ht4, hb4⟩))
  go_ret;exact ⟨_, rfl, by omega, hb4.trans (hb5.mono hb4.size)⟩
 cases q11
 case true =>
  go_wp2_with (go_at_call 111; refine (HS.out _).mono ?_; rintro e w5 ⟨t5, rfl, ht5, hb5⟩)
  go_ret;exact ⟨_, rfl, by omega, hb5⟩
 cases q12
 case true =>
  go_wp2_with (first | (go_at_call 89; refine (HE.out _ _ (by omega)).mono ?_; rintro e w5 ⟨t5, rfl, ht5, hb5⟩) | (go_at_call 111; refine (HS.out _).mono ?_; rintro e w4 ⟨t4, rfl, ht4, hb4⟩))
  go_ret;exact ⟨_, rfl, by omega, hb4.trans (hb5.mono hb4.size)⟩
 go_wp2_with fail
 go_ret
 exact ⟨_, rfl, Nat.zero_le _, Below.refl _ _⟩
theorem print23_any (k m : Int) (x : ByteArray) (l : List Vd) (ks : List ByteArray) (nl nk : Nat) (hnl : l.length = nl) (hnk : ks.length = nk) (hN : (Vd.mk k m x l ks).wt <= 1048583) (Al Ak : Option Addr) (cl ck : Nat) (w : World) (hl : RowsV w (fun _ => True) 5 Al 0 (vdRows l)) (hk : RowsV w (fun _ => True) 1 Ak 0 (strRows ks)) : Calls Tryz.prog 70 #[.agg #[.int .i64 k, .int .i64 m, .string x, .slice Al nl cl, .slice Ak nk ck]] w (PS 4194332 w) := by
 have HC := hid (fun W (hb : Below w.heap.size w W) => print04_any 1048583 k m x l ks nl nk hnl hnk hN (by omega) Al Ak cl ck W (RowsV.below hl hb) (RowsV.below hk hb))
 obtain ⟨W, hW⟩ := xE (w.alloc (.cells #[.int .i64 k, .int .i64 m, .string x, .slice Al nl cl, .slice Ak nk ck] 25))
 have hbw : Below w.heap.size w W := by rw [<- hW]; exact alloc_below _ _
 have HX : Hid (Blk W w.heap.size 25 #[.int .i64 k, .int .i64 m, .string x, .slice Al nl cl, .slice Ak nk ck]) := hid (by rw [<- hW]; exact Blk.new _ _ _)
 have Hb := hid hbw
 obtain ⟨pt, hpt⟩ := xE w.heap.size
 rw [hpt] at HX
 clear hbw
 obtain ⟨⟨c0, c1, c2, c3, c4⟩, -⟩ := blk5_cells HX.out
 have HC1 := hid (HC.out W Hb.out)
 obtain ⟨q0, hq0⟩ := xE (k == 0)
 have hNN := hN
 go_enter Tryz.func70, Tryz.ntmps70
 cases q0
 ·go_wp2_with (go_at_call 92; refine HC1.out.mono ?_; rintro e w3 ⟨t, rfl, ht, hb3⟩)
  go_ret;exact ⟨_, rfl, by omega, Hb.out.trans (hb3.mono Hb.out.size)⟩
 go_wp2_with fail
 go_ret
 exact ⟨_, rfl, Nat.zero_le _, Hb.out⟩
def PSE (n : Nat) (w : World) (e : Ending) (w' : World) : Prop := ∃ (t : ByteArray) (er : Int), e = .returned (.tuple #[.string t, .int .i64 er]) /\ t.size <= n /\ Below w.heap.size w w'
theorem apply_any (esc : Int) (k m : Int) (x : ByteArray) (l : List Vd) (ks : List ByteArray) (nl nk : Nat) (hnl : l.length = nl) (hnk : ks.length = nk) (hN : (Vd.mk k m x l ks).wt <= 1048583) (Al Ak : Option Addr) (cl ck : Nat) (w : World) (hl : RowsV w (fun _ => True) 5 Al 0 (vdRows l)) (hk : RowsV w (fun _ => True) 1 Ak 0 (strRows ks)) : Calls Tryz.prog 69 #[.int .i64 esc, .agg #[.int .i64 k, .int .i64 m, .string x, .slice Al nl cl, .slice Ak nk ck]] w (PSE 1073741824 w) := by
 have HC := hid (fun W (hb : Below w.heap.size w W) => Check04_any k m x l ks nl nk hnl hnk hN Al Ak cl ck W (RowsV.below hl hb) (RowsV.below hk hb))
 have HL := hid (fun W (hb : Below w.heap.size w W) => literal04_any 1048583 k m x l ks nl nk hnl hnk hN (by omega) Al Ak cl ck W (RowsV.below hl hb) (RowsV.below hk hb))
 have HP := hid (fun W (hb : Below w.heap.size w W) => print23_any k m x l ks nl nk hnl hnk hN Al Ak cl ck W (RowsV.below hl hb) (RowsV.below hk hb))
 have HE := hid (fun t W (h : t.size <= 4294967296) => escS_any t W h)
 have HS := hid (fun W => safe_any esc k W)
 have HPl := hid (fun t W (h : t.size <= 4194332) => plain_any esc t W h)
 have hwt := hN
 rw [Vd.wt] at hwt
 have hxz : x.size <= 1048583 := by omega
 clear hwt
 obtain ⟨W, hW⟩ := xE (w.alloc (.cells #[.int .i64 k, .int .i64 m, .string x, .slice Al nl cl, .slice Ak nk ck] 25))
 have hbw : Below w.heap.size w W := by rw [<- hW]; exact alloc_below _ _
 have HX : Hid (Blk W w.heap.size 25 #[.int .i64 k, .int .i64 m, .string x, .slice Al nl cl, .slice Ak nk ck]) := hid (by rw [<- hW]; exact Blk.new _ _ _)
 have Hb := hid hbw
 obtain ⟨pt, hpt⟩ := xE w.heap.size
 rw [hpt] at HX
 clear hbw
 obtain ⟨⟨c0, c1, c2, c3, c4⟩, -⟩ := blk5_cells HX.out
 go_enter Tryz.func69, Tryz.ntmps69
 by_cases h1 : esc < 1
 ·go_wp2_with fail
  go_ret2;exact ⟨_, _, rfl, Nat.zero_le _, Hb.out⟩
 by_cases h2 : 12 < esc
 ·go_wp2_with fail
  go_ret2;exact ⟨_, _, rfl, Nat.zero_le _, Hb.out⟩
 have HC1 := hid (HC.out W Hb.out)
 go_upto_region 4 with (go_at_call 7; refine HC1.out.mono ?_; rintro e w3 ⟨er, rfl, hb3⟩)
 have Hb3 := hid (Hb.out.trans (hb3.mono Hb.out.size))
 have HX3 := hid (HX.out.below hb3 HX.out.lt)
 obtain ⟨W3, rfl⟩ := xS w3
 clear c0 c1 c2 c3 c4 hb3 HX HC1
 by_cases h0 : er = 0
 case neg =>
  have h0b : (er != 0) = true := bne_iff_ne.2 h0;go_wp2_with fail
  go_ret2;exact ⟨_, _, rfl, Nat.zero_le _, Hb3.out⟩
 subst h0
 obtain ⟨⟨c0, c1, c2, c3, c4⟩, -⟩ := blk5_cells HX3.out
 go_upto_region 6 with fail
 go_cut [7] from 9 (fun cc (wx : World) => ∃ b : Bool, cc = .bool b /\ wx = W3)
 case first => as_aux_lemma =>
  obtain ⟨q3, hq3⟩ := xE (esc == 3);obtain ⟨q4, hq4⟩ := xE (esc == 4);obtain ⟨q5, hq5⟩ := xE (esc == 5);obtain ⟨q9, hq9⟩ := xE (esc == 9);obtain ⟨q12, hq12⟩ := xE (esc == 12);go_wp2_with fail
  all_goals (go_meet; exact ⟨_, rfl, rfl⟩)
 obtain ⟨ba, rfl, hwc⟩ := hcut
 obtain rfl := hwc
 go_upto_region 8 with (go_at_call 88; refine (HS.out _).mono ?_; rintro e w4 ⟨b, rfl, hw⟩; obtain rfl := hw.symm; cases b)
 ·have HL3 := hid (HL.out wc Hb3.out);go_upto_region 12 with (go_at_call 90; refine HL3.out.mono ?_; rintro e w5 ⟨t5, rfl, ht5, hb5⟩; have ht5z : t5.size <= 12582996 := (by omega))
  have Hb5 := hid (Hb3.out.trans (hb5.mono Hb3.out.size));have HX5 := hid (HX3.out.below hb5 HX3.out.lt);obtain ⟨W5, rfl⟩ := xS w5;clear c0 c1 c2 c3 c4 hb5 HX3 HL3;have HP5 := hid (HP.out W5 Hb5.out);obtain ⟨⟨c0, c1, c2, c3, c4⟩, -⟩ := blk5_cells HX5.out;have z1 : (⟨#[32]⟩ : ByteArray).size = 1 := rfl;obtain ⟨u, hu⟩ : ∃ y : ByteArray, (⟨#[32]⟩ : ByteArray) ++ t5 ++ ⟨#[32]⟩ = y := ⟨_, rfl⟩
  have huz : u.size <= 12582998 := by rw [<- hu]; simp only [ByteArray.size_append]; omega
  rw [hu];clear hu;obtain ⟨q7, hq7⟩ := xE (esc == 7);obtain ⟨q9, hq9⟩ := xE (esc == 9);cases q7;case true =>
   go_wp2_with fail
   go_ret2;exact ⟨_, _, rfl, by omega, Hb5.out⟩
  cases q9;case true =>
   go_wp2_with (go_at_call 89; refine (HE.out _ _ (by omega)).mono ?_; rintro e w6 ⟨t6, rfl, ht6, hb6⟩)
   go_ret2;exact ⟨_, _, rfl, by omega, Hb5.out.trans (hb6.mono Hb5.out.size)⟩
  go_wp2_with (first
   | (go_at_call 70; refine HP5.out.mono ?_; rintro e w6 ⟨t6, rfl, ht6, hb6⟩)
   | (go_at_call 91; refine (HPl.out _ _ ht6).mono ?_; rintro e w7 ⟨t7, rfl, ht7, hb7⟩))
  go_ret2;exact ⟨_, _, rfl, by omega, (Hb5.out.trans (hb6.mono Hb5.out.size)).trans (hb7.mono (Nat.le_trans Hb5.out.size hb6.size))⟩
 cases ba
 ·go_wp2_with fail
  go_ret2;exact ⟨_, _, rfl, by omega, Hb3.out⟩
 go_wp2_with (go_at_call 89; refine (HE.out _ _ (by omega)).mono ?_; rintro e w6 ⟨t6, rfl, ht6, hb6⟩)
 go_ret2
 exact ⟨_, _, rfl, by omega, Hb3.out.trans (hb6.mono Hb3.out.size)⟩
end Go.Proofs.YtkcnmjdomipbjaaGreat
