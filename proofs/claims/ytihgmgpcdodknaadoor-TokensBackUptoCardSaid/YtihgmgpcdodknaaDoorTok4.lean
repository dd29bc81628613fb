/- The reader's attrs: its codes from each label on; what holds at the labels; the steps of the plain law. -/
import Derived.Test.YtihgmgpcdodknaaDoorTok3
import Derived.Test.YtihgmgpcdodknaaDoorGoto
import Derived.WalkMore
set_option linter.unusedVariables false
namespace Go.Proofs.YtihgmgpcdodknaaDoor
open Go.RowKit

def inScp : Option Code → Code
  | some (.seq _ (.scope c)) => c
  | _ => .skip
def aftLb : Option Code → Code
  | some (.seq .skip r) => r
  | _ => .skip
/-- the scope's code; its code from a label on -/
def codeA (f : Func) : Code := inScp f.body
def codeL (f : Func) (l : Nat) : Code := aftLb (findLabel (codeA f) l)

/-! ### The steps of the plain law -/
theorem at_nil (st : Sta) (ats : List Att) : atT st [] ats = none := atT_fail (by cases st <;> rfl)
theorem at0_b {c : UInt8} (r : List UInt8) (ats : List Att) (h : isBlank c = true) : atT .bef (c :: r) ats = atT .bef r ats := atT_go (by simp [atStep, h])
theorem at0_s (r : List UInt8) (ats : List Att) : atT .bef (47 :: r) ats = atT .sla r ats := atT_go rfl
theorem at0_e (r : List UInt8) (ats : List Att) : atT .bef (62 :: r) ats = some (ats, false, r) := atT_done rfl
theorem at0_n {c : UInt8} (r : List UInt8) (ats : List Att) (h : isBlank c = false) (h1 : c ≠ 47) (h2 : c ≠ 62) : atT .bef (c :: r) ats = atT (.nam [lowB c]) r ats := atT_go (by simp [atStep, h, h1, h2])
theorem at2_b {c : UInt8} (n r : List UInt8) (ats : List Att) (h : isBlank c = true) : atT (.nam n) (c :: r) ats = atT (.aft n) r ats := atT_go (by simp [atStep, h])
theorem at2_q (n r : List UInt8) (ats : List Att) : atT (.nam n) (61 :: r) ats = atT (.wan n) r ats := atT_go rfl
theorem at2_e {c : UInt8} (n r : List UInt8) (ats : List Att) (h : c = 47 ∨ c = 62) : atT (.nam n) (c :: r) ats = atT .bef (c :: r) (ats ++ [(n, [])]) := by rcases h with rfl | rfl <;> exact atT_go rfl
theorem at2_n {c : UInt8} (n r : List UInt8) (ats : List Att) (h : isBlank c = false) (h0 : c ≠ 61) (h1 : c ≠ 47) (h2 : c ≠ 62) : atT (.nam n) (c :: r) ats = atT (.nam (n ++ [lowB c])) r ats := atT_go (by simp [atStep, h, h0, h1, h2])
theorem at3_b {c : UInt8} (n r : List UInt8) (ats : List Att) (h : isBlank c = true) : atT (.aft n) (c :: r) ats = atT (.aft n) r ats := atT_go (by simp [atStep, h])
theorem at3_q (n r : List UInt8) (ats : List Att) : atT (.aft n) (61 :: r) ats = atT (.wan n) r ats := atT_go rfl
theorem at3_o {c : UInt8} (n r : List UInt8) (ats : List Att) (h : isBlank c = false) (h0 : c ≠ 61) : atT (.aft n) (c :: r) ats = atT .bef (c :: r) (ats ++ [(n, [])]) := atT_go (by simp [atStep, h, h0])
theorem at4_b {c : UInt8} (n r : List UInt8) (ats : List Att) (h : isBlank c = true) : atT (.wan n) (c :: r) ats = atT (.wan n) r ats := atT_go (by simp [atStep, h])
theorem at4_e (n r : List UInt8) (ats : List Att) : atT (.wan n) (62 :: r) ats = atT .bef (62 :: r) (ats ++ [(n, [])]) := atT_go rfl
theorem at4_qn {c : UInt8} (n r : List UInt8) (ats : List Att) (h : c = 34 ∨ c = 39) (hi : Lib.indexByte r c < 0) : atT (.wan n) (c :: r) ats = none := atT_fail (by rcases h with rfl | rfl <;> (simp only [atStep]; rw [if_neg (by decide), if_neg (by decide), if_pos (by decide), if_pos hi]))
theorem at4_qy {c : UInt8} (n r : List UInt8) (ats : List Att) (i : Nat) (h : c = 34 ∨ c = 39) (hi : Lib.indexByte r c = (i : Int)) : atT (.wan n) (c :: r) ats = atT .bef (r.drop (i + 1)) (ats ++ [(n, decL (r.take i))]) :=
  atT_go (by rcases h with rfl | rfl <;> (simp only [atStep]; rw [if_neg (by decide), if_neg (by decide), if_pos (by decide), hi, if_neg (by omega), Int.toNat_natCast]))
theorem at4_on {c : UInt8} (n r : List UInt8) (ats : List Att) (h : isBlank c = false) (h0 : c ≠ 62) (h1 : c ≠ 34) (h2 : c ≠ 39) (hd : (c :: r).dropWhile bareC = []) : atT (.wan n) (c :: r) ats = none :=
  atT_fail (by simp only [atStep]; rw [if_neg (by simp [h]), if_neg h0, if_neg (by simp [h1, h2]), if_pos hd])
theorem at4_oy {c : UInt8} (n r : List UInt8) (ats : List Att) (h : isBlank c = false) (h0 : c ≠ 62) (h1 : c ≠ 34) (h2 : c ≠ 39) (hd : (c :: r).dropWhile bareC ≠ []) : atT (.wan n) (c :: r) ats = atT .bef ((c :: r).dropWhile bareC) (ats ++ [(n, decL ((c :: r).takeWhile bareC))]) :=
  atT_go (by simp only [atStep]; rw [if_neg (by simp [h]), if_neg h0, if_neg (by simp [h1, h2]), if_neg hd])
theorem at1_e (r : List UInt8) (ats : List Att) : atT .sla (62 :: r) ats = some (ats, true, r) := atT_done rfl
theorem at1_o {c : UInt8} (r : List UInt8) (ats : List Att) (h : c ≠ 62) : atT .sla (c :: r) ats = atT .bef (c :: r) ats := atT_go (by simp [atStep, h])
theorem bOf_is (n : Int) (h0 : 0 ≤ n) (h1 : n ≤ 255) (c : UInt8) : bOf n = c ↔ n = (c.toNat : Int) := by
  have := bOf_toNat n h0 h1
  constructor
  · intro e; rw [← e]; omega
  · intro e
    apply UInt8.toNat_inj.1
    omega
theorem bOf_no (n : Int) (h0 : 0 ≤ n) (h1 : n ≤ 255) (c : UInt8) (k : Int) (hk : (c.toNat : Int) = k) (h : ¬ n = k) : bOf n ≠ c := fun e => h (by rw [← hk]; exact (bOf_is n h0 h1 c).1 e)

/-! ### What holds at the labels -/
theorem OwnA.low {w : World} {b b' : Nat} {v : Value} {l : List Att} (h : OwnA w b v l) (hb : b' ≤ b) : OwnA w b' v l := by
  refine ⟨h.1, ?_⟩
  rcases h.2 with h0 | ⟨g, cap, cur, e, hb0, h1⟩
  · exact .inl h0
  · exact .inr ⟨g, cap, cur, e, Nat.le_trans hb hb0, h1⟩
theorem Fr.low {R : Nat} {a : Option Nat} {w0 W W' : World} (h : Fr R a a w0 W) (k : Below w0.heap.size W W') : Fr R a a w0 W' :=
  ⟨k.os.trans h.os, k.tape.trans h.tape, k.output.trans h.output, Nat.le_trans h.size k.size, fun j hj hR ha => (k.block j hj).trans (h.block j hj hR ha), .inl rfl⟩
theorem Rd.thru {w W : World} {base R T : Nat} {s : ByteArray} {k m : Nat} {V : Value} {L : List Tk} {cs : Array Value} (h : Rd w base R s k V L) (hT : V.ownBlock ≠ some T) (hb0 : Blk w T 53 cs) (f : Fr R (some T) (some T) w W)
    (hb : Blk W R 64 #[.string s, .int .i64 (m : Int), V]) : Rd W base R s m V L := by
  obtain ⟨xs, hx, ho⟩ := h.2.2
  refine ⟨⟨h.1.1, Nat.le_trans h.1.2 f.size⟩, hb, xs, TkCells.map (fun v l hv => own_stay hv fun g cur _ hg => ?_) L xs hx, own_stay ho fun g cur hgo hg => ?_⟩
  · exact f.block g (Blk.lt (t := 95) (cs := cur) hg) (Blk.ne_ (t := 95) (cs := cur) hg h.2.1 (by decide)) (fun e => Blk.ne_ (t := 95) (cs := cur) hg hb0 (by decide) (by injection e))
  · exact f.block g (Blk.lt (t := 53) (cs := cur) hg) (Blk.ne_ (t := 53) (cs := cur) hg h.2.1 (by decide)) (fun e => hT (hgo.trans e))
/-- the reader's block, the tag's, the attribute's; the attributes so far -/
structure Co (w0 W : World) (R T A : Nat) (s : ByteArray) (m : Nat) (V : Value) (kd : Int) (tn : ByteArray) (VA : Value) (ats : List Att) (x y : List UInt8) : Prop where
  r : Blk W R 64 #[.string s, .int .i64 (m : Int), V]
  t : Blk W T 53 #[.int .i64 kd, .string tn, .string ⟨#[]⟩, VA, .bool false]
  a : Blk W A 95 #[.string (bs x), .string (bs y)]
  own : OwnA W (A + 1) VA ats
  fr : Fr R (some T) (some T) w0 W
  lo : w0.heap.size ≤ A
section
variable {w0 W W' W1 w3 : World} {R T A : Nat} {s : ByteArray} {m : Nat} {V : Value} {kd : Int} {tn : ByteArray} {VA VA' : Value} {ats ats' : List Att} {x y : List UInt8}
theorem Co.rt (h : Co w0 W R T A s m V kd tn VA ats x y) : R ≠ T := Blk.ne_ h.r h.t (by decide)
theorem Co.ra (h : Co w0 W R T A s m V kd tn VA ats x y) : R ≠ A := Blk.ne_ h.r h.a (by decide)
theorem Co.ta (h : Co w0 W R T A s m V kd tn VA ats x y) : T ≠ A := Blk.ne_ h.t h.a (by decide)
theorem Co.fr_ (h : Co w0 W R T A s m V kd tn VA ats x y) {m' : Nat} (f : Fr R none none W W') (hr : Blk W' R 64 #[.string s, .int .i64 (m' : Int), V]) : Co w0 W' R T A s m' V kd tn VA ats x y :=
  ⟨hr, f.blk h.t (Ne.symm h.rt) (by simp), f.blk h.a (Ne.symm h.ra) (by simp), own_stay h.own fun g cur _ hg => f.block g (Blk.lt (t := 95) (cs := cur) hg) (Blk.ne_ (t := 95) (cs := cur) hg h.r (by decide)) (by simp), h.fr.trans (f.wk _), h.lo⟩
theorem Co.below (h : Co w0 W R T A s m V kd tn VA ats x y) (hb : Below W.heap.size W W') : Co w0 W' R T A s m V kd tn VA ats x y := h.fr_ (Fr.of_below hb) (h.r.below hb h.r.lt)
theorem Co.dN (h : Co w0 W R T A s m V kd tn VA ats x y) (n : Nat) : Co w0 (W.drewN n) R T A s m V kd tn VA ats x y := h.below (below_dN _ _ n)
theorem Co.drew (h : Co w0 W R T A s m V kd tn VA ats x y) : Co w0 W.drew R T A s m V kd tn VA ats x y := h.below (Below.refl _ _).drew
theorem Co.posI (h : Co w0 W R T A s m V kd tn VA ats x y) {i : Int} (m' : Nat) (hi : i = (m' : Int)) : Co w0 (W.setCell ⟨R, 1, none⟩ (.int .i64 i)) R T A s m' V kd tn VA ats x y := by
  subst hi
  exact h.fr_ (Fr.setR 1 _) (h.r.set_ 1 _)
theorem Co.setA (h : Co w0 W R T A s m V kd tn VA ats x y) {x' y' : List UInt8} (hb : Below A W W') (ho : ∀ g, A < g → g < W.heap.size → W'.heap[g]? = W.heap[g]?) (ha : Blk W' A 95 #[.string (bs x'), .string (bs y')])
    (hR : W'.heap[R]? = W.heap[R]?) (hT : W'.heap[T]? = W.heap[T]?) : Co w0 W' R T A s m V kd tn VA ats x' y' :=
  ⟨hR.trans h.r, hT.trans h.t, ha, own_stay h.own fun g cur hgo hg => ho g (World.ownsRow.lt h.own g hgo).1 (World.ownsRow.lt h.own g hgo).2, h.fr.low (hb.mono h.lo), h.lo⟩
theorem Co.set0 (h : Co w0 W R T A s m V kd tn VA ats x y) {z : ByteArray} (x' : List UInt8) (hz : z = bs x') : Co w0 (W.setCell ⟨A, 0, none⟩ (.string z)) R T A s m V kd tn VA ats x' y := by
  subst hz
  exact h.setA ⟨rfl, rfl, rfl, by simp [World.setCell], fun k hk => Below.heap_setCell W _ _ k (Nat.ne_of_lt hk)⟩ (fun g hg _ => Below.heap_setCell W _ _ g (Nat.ne_of_gt hg)) (h.a.set_ 0 _) (Below.heap_setCell W _ _ R h.ra) (Below.heap_setCell W _ _ T h.ta)
theorem Co.set1 (h : Co w0 W R T A s m V kd tn VA ats x y) {z : ByteArray} (y' : List UInt8) (hz : z = bs y') : Co w0 (W.setCell ⟨A, 1, none⟩ (.string z)) R T A s m V kd tn VA ats x y' := by
  subst hz
  exact h.setA ⟨rfl, rfl, rfl, by simp [World.setCell], fun k hk => Below.heap_setCell W _ _ k (Nat.ne_of_lt hk)⟩ (fun g hg _ => Below.heap_setCell W _ _ g (Nat.ne_of_gt hg)) (h.a.set_ 1 _) (Below.heap_setCell W _ _ R h.ra) (Below.heap_setCell W _ _ T h.ta)
/-- the attributes, grown and stored -/
theorem Co.put3 (h : Co w0 W R T A s m V kd tn VA ats x y) (hb : Below W.heap.size W W1) (hg : W1.grownBy w3 VA.ownBlock) (ho : OwnA w3 (A + 1) VA' ats') : Co w0 (w3.setCell ⟨T, 3, none⟩ VA') R T A s m V kd tn VA' ats' x y := by
  have h1 := h.below hb
  have hr3 : Blk w3 R 64 #[.string s, .int .i64 (m : Int), V] := h1.r.grown hg (fun e => own_blk_ne h1.own h1.r (by decide) e.symm)
  have ht3 : Blk w3 T 53 #[.int .i64 kd, .string tn, .string ⟨#[]⟩, VA, .bool false] := h1.t.grown hg (fun e => own_blk_ne h1.own h1.t (by decide) e.symm)
  have ha3 : Blk w3 A 95 #[.string (bs x), .string (bs y)] := h1.a.grown hg (fun e => by have := (World.ownsRow.lt h1.own A e.symm).1; omega)
  have hl := h1.lo
  have hs1 := h1.fr.size
  refine ⟨hr3.far (p := ⟨T, 3, none⟩) h.rt _, ht3.set_ 3 _, ha3.far (p := ⟨T, 3, none⟩) (Ne.symm h.ta) _, own_stay ho fun g cur _ hc => Below.heap_setCell w3 _ _ g (Blk.ne_ (t := 95) (cs := cur) hc ht3 (by decide)), ?_, h.lo⟩
  refine ⟨hg.os.trans h1.fr.os, hg.tape.trans h1.fr.tape, hg.output.trans h1.fr.output, by simp only [World.setCell, Array.size_modify]; exact Nat.le_trans hs1 hg.size, fun k hk hR hT => ?_, .inl rfl⟩
  rw [Below.heap_setCell w3 _ _ k (fun e => hT (by rw [e]))]
  exact (hg.block k (by omega) (fun e => by have := (World.ownsRow.lt h1.own k e.symm).1; omega)).trans (h1.fr.block k hk hR hT)
theorem Co.c0 (h : Co w0 W R T A s m V kd tn VA ats x y) : W.cell? ⟨R, 0, none⟩ = some (.string s) := (h.r.cell 0).trans rfl
theorem Co.c1 (h : Co w0 W R T A s m V kd tn VA ats x y) : W.cell? ⟨R, 1, none⟩ = some (.int .i64 (m : Int)) := (h.r.cell 1).trans rfl
theorem Co.a0 (h : Co w0 W R T A s m V kd tn VA ats x y) : W.cell? ⟨A, 0, none⟩ = some (.string (bs x)) := (h.a.cell 0).trans rfl
theorem Co.a1 (h : Co w0 W R T A s m V kd tn VA ats x y) : W.cell? ⟨A, 1, none⟩ = some (.string (bs y)) := (h.a.cell 1).trans rfl
theorem Co.t3 (h : Co w0 W R T A s m V kd tn VA ats x y) : W.cell? ⟨T, 3, none⟩ = some VA := (h.t.cell 3).trans rfl
theorem Co.t4 (h : Co w0 W R T A s m V kd tn VA ats x y) : W.cell? ⟨T, 4, none⟩ = some (.bool false) := (h.t.cell 4).trans rfl
end

/-- what stands fast -/
structure Fix (base R T : Nat) (s : ByteArray) (k : Nat) (V : Value) (L : List Tk) (w0 : World) : Prop where
  hs : s.size ≤ 65536
  rd : Rd w0 base R s k V L
  t : ∃ cs, Blk w0 T 53 cs
  v : V.ownBlock ≠ some T
def AtPost (base R T : Nat) (s : ByteArray) (V : Value) (L : List Tk) (kd : Int) (tn : ByteArray) (w0 : World) (Rz : Option (List Att × Bool × List UInt8)) (e : Ending) (w' : World) : Prop :=
  match Rz with
  | none => e = .returned (.bool false) ∧ ∃ m, m ≤ s.size ∧ Rd w' base R s m V L ∧ Fr R (some T) (some T) w0 w'
  | some (ats, cl, r) => e = .returned (.bool true) ∧ ∃ m VA, m ≤ s.size ∧ s.data.toList.drop m = r ∧ Rd w' base R s m V L ∧ Blk w' T 53 #[.int .i64 kd, .string tn, .string ⟨#[]⟩, VA, .bool cl] ∧ OwnA w' w0.heap.size VA ats ∧ Fr R (some T) (some T) w0 w'
section
variable {base k : Nat} {L : List Tk} {w0 W W' : World} {R T A : Nat} {s : ByteArray} {m : Nat} {V : Value} {kd : Int} {tn : ByteArray} {VA : Value} {ats : List Att} {x y : List UInt8} {Rz : Option (List Att × Bool × List UInt8)}
theorem Co.rd (h : Co w0 W R T A s m V kd tn VA ats x y) (F : Fix base R T s k V L w0) : Rd W base R s m V L := by
  obtain ⟨cs, ht⟩ := F.t
  exact F.rd.thru F.v ht h.fr h.r
theorem Co.fail (h : Co w0 W R T A s m V kd tn VA ats x y) (F : Fix base R T s k V L w0) (hm : m ≤ s.size) (hz : none = Rz) : AtPost base R T s V L kd tn w0 Rz (.returned (.bool false)) W := by
  subst hz
  exact ⟨rfl, m, hm, h.rd F, h.fr⟩
theorem Co.done_ (h : Co w0 W R T A s m V kd tn VA ats x y) (F : Fix base R T s k V L w0) (hm : m ≤ s.size) {r : List UInt8} (hr : s.data.toList.drop m = r) (hz : some (ats, false, r) = Rz) : AtPost base R T s V L kd tn w0 Rz (.returned (.bool true)) W := by
  subst hz
  exact ⟨rfl, m, VA, hm, hr, h.rd F, h.t, h.own.low (Nat.le_succ_of_le h.lo), h.fr⟩
theorem Co.closed (h : Co w0 W R T A s m V kd tn VA ats x y) (F : Fix base R T s k V L w0) (hm : m ≤ s.size) {r : List UInt8} (hr : s.data.toList.drop m = r) (hz : some (ats, true, r) = Rz) : AtPost base R T s V L kd tn w0 Rz (.returned (.bool true)) (W.setCell ⟨T, 4, none⟩ (.bool true)) := by
  subst hz
  obtain ⟨cs, ht⟩ := F.t
  have hfr : Fr R (some T) (some T) w0 (W.setCell ⟨T, 4, none⟩ (.bool true)) := ⟨h.fr.os, h.fr.tape, h.fr.output, by simpa [World.setCell] using h.fr.size, fun j hj hR hT => (Below.heap_setCell W _ _ j (fun e => hT (by rw [e]))).trans (h.fr.block j hj hR hT), .inl rfl⟩
  exact ⟨rfl, m, VA, hm, hr, F.rd.thru F.v ht hfr (h.r.far (p := ⟨T, 4, none⟩) h.rt _), h.t.set_ 4 _, OwnA.low (own_stay h.own fun g cur _ hc => Below.heap_setCell W _ _ g (Blk.ne_ (t := 95) (cs := cur) hc h.t (by decide))) (Nat.le_succ_of_le h.lo), hfr⟩
theorem Co.next_some (C : Co w0 W R T A s m V kd tn VA ats x y) (F : Fix base R T s k V L w0) (hm : m < s.size) :
    Calls Tryd.prog 115 #[.pointer (some ⟨R, 0, none⟩)] W fun e w' => e = .returned (.tuple #[.int .u8 ((s[m]'hm).toNat : Int), .bool true]) ∧ Co w0 w' R T A s (m + 1) V kd tn VA ats x y :=
  (Go.Proofs.YtihgmgpcdodknaaDoor.next_some base R s m V L W F.hs hm (C.rd F)).mono fun e w' h => ⟨h.1, C.fr_ h.2.2 h.2.1.2.1⟩
theorem Co.next_none (C : Co w0 W R T A s s.size V kd tn VA ats x y) (F : Fix base R T s k V L w0) :
    Calls Tryd.prog 115 #[.pointer (some ⟨R, 0, none⟩)] W fun e w' => e = .returned (.tuple #[.int .u8 0, .bool false]) ∧ Co w0 w' R T A s s.size V kd tn VA ats x y :=
  (Go.Proofs.YtihgmgpcdodknaaDoor.next_none base R s V L W F.hs (C.rd F)).mono fun e w' h => ⟨h.1, C.fr_ h.2.2 h.2.1.2.1⟩
end

/-- a cell that holds a text: which one -/
def gS (w : World) (A : Nat) : ByteArray := match w.cell? ⟨A, 0, none⟩ with
  | some (.string b) => b
  | _ => ⟨#[]⟩
def gT (w : World) (A : Nat) : ByteArray := match w.cell? ⟨A, 1, none⟩ with
  | some (.string b) => b
  | _ => ⟨#[]⟩
theorem gt_of {w : World} {A : Nat} {b : ByteArray} (h : w.cell? ⟨A, 1, none⟩ = some (.string b)) : w.cell? ⟨A, 1, none⟩ = some (.string (gT w A)) := by unfold gT; rw [h]
theorem gt_aft {w w' : World} {A : Nat} (hb : Below w.heap.size w w') (hA : A < w.heap.size) (h : w.cell? ⟨A, 1, none⟩ = some (.string (gT w A))) : w'.cell? ⟨A, 1, none⟩ = some (.string (gT w' A)) := gt_of (cell_aft hb hA h)
theorem gs_is {w : World} {A : Nat} {b : ByteArray} (h : w.cell? ⟨A, 0, none⟩ = some (.string b)) : gS w A = b := by unfold gS; rw [h]
theorem gs_of {w : World} {A : Nat} {b : ByteArray} (h : w.cell? ⟨A, 0, none⟩ = some (.string b)) : w.cell? ⟨A, 0, none⟩ = some (.string (gS w A)) := by rw [gs_is h]; exact h
theorem gs_aft {w w' : World} {A : Nat} (hb : Below w.heap.size w w') (hA : A < w.heap.size) (h : w.cell? ⟨A, 0, none⟩ = some (.string (gS w A))) : w'.cell? ⟨A, 0, none⟩ = some (.string (gS w' A)) := gs_of (cell_aft hb hA h)
theorem cell_far0 {w : World} {A R j i : Nat} {v : Value} (h : A ≠ R) : (w.setCell ⟨A, j, none⟩ v).cell? ⟨R, i, none⟩ = w.cell? ⟨R, i, none⟩ := World.cell?_setCell_other w _ _ v (fun e => h (by injection e))
theorem gs_set {w : World} {A : Nat} {b c : ByteArray} (h : w.cell? ⟨A, 0, none⟩ = some (.string b)) : (w.setCell ⟨A, 0, none⟩ (.string c)).cell? ⟨A, 0, none⟩ = some (.string (gS (w.setCell ⟨A, 0, none⟩ (.string c)) A)) :=
  gs_of (b := c) (World.cell?_setCell_same w _ _ h)
theorem gt_set {w : World} {A : Nat} {b c : ByteArray} (h : w.cell? ⟨A, 1, none⟩ = some (.string b)) : (w.setCell ⟨A, 1, none⟩ (.string c)).cell? ⟨A, 1, none⟩ = some (.string (gT (w.setCell ⟨A, 1, none⟩ (.string c)) A)) :=
  gt_of (b := c) (World.cell?_setCell_same w _ _ h)
theorem cell_off1 {w : World} {A : Nat} {v : Value} : (w.setCell ⟨A, 1, none⟩ v).cell? ⟨A, 0, none⟩ = w.cell? ⟨A, 0, none⟩ := World.cell?_setCell_other w _ _ v (by simp)
theorem cell_off0 {w : World} {A : Nat} {v : Value} : (w.setCell ⟨A, 0, none⟩ v).cell? ⟨A, 1, none⟩ = w.cell? ⟨A, 1, none⟩ := World.cell?_setCell_other w _ _ v (by simp)
/-- both cells, stored anew -/
theorem gs_two {w : World} {A : Nat} {b c d : ByteArray} (h : w.cell? ⟨A, 0, none⟩ = some (.string b)) : ((w.setCell ⟨A, 0, none⟩ (.string c)).setCell ⟨A, 1, none⟩ (.string d)).cell? ⟨A, 0, none⟩ = some (.string (gS ((w.setCell ⟨A, 0, none⟩ (.string c)).setCell ⟨A, 1, none⟩ (.string d)) A)) :=
  gs_of (b := c) (cell_off1.trans (World.cell?_setCell_same w _ _ h))
theorem frz_set {w : World} {p q : Addr} {v : Value} (h : w.frozen? q = false) : (w.setCell p v).frozen? q = false := by rw [World.frozen?_setCell]; exact h
theorem wrap64_id {i : Int} (h0 : -9223372036854775808 ≤ i) (h1 : i ≤ 9223372036854775807) : wrap64 i = i := by unfold wrap64; omega
/-- the frame: the reader, the tag, the attribute; all else may be anything -/
def frA (R T A : Nat) (u : Nat → Value) : Act := { tmps := #[.pointer (some ⟨R, 0, none⟩), .pointer (some ⟨T, 0, none⟩), u 2, u 3, u 4, .pointer (some ⟨A, 0, none⟩), u 6, u 7, u 8, u 9, u 10, u 11, u 12, u 13, u 14, u 15, u 16, u 17, u 18, u 19, u 20, u 21, u 22, u 23, u 24, u 25, u 26, u 27, u 28, u 29, u 30, u 31, u 32, u 33, u 34, u 35, u 36, u 37, u 38, u 39, u 40, u 41, u 42, u 43, u 44, u 45, u 46, u 47, u 48, u 49, u 50, u 51, u 52, u 53, u 54, u 55, u 56, u 57, u 58, u 59, u 60, u 61, u 62, u 63, u 64, u 65, u 66, u 67, u 68, u 69, u 70, u 71, u 72, u 73, u 74, u 75, u 76, u 77, u 78, u 79, u 80, u 81, u 82, u 83, u 84, u 85, u 86, u 87, u 88, u 89, u 90, u 91, u 92, u 93, u 94, u 95, u 96, u 97, u 98, u 99, u 100, u 101, u 102, u 103, u 104, u 105, u 106, u 107, u 108, u 109, u 110, u 111, u 112, u 113, u 114, u 115, u 116, u 117, u 118, u 119, u 120, u 121, u 122, u 123, u 124, u 125, u 126, u 127, u 128, u 129, u 130, u 131, u 132, u 133, u 134, u 135, u 136, u 137, u 138, u 139, u 140, u 141, u 142, u 143, u 144, u 145, u 146, u 147, u 148, u 149, u 150, u 151, u 152, u 153, u 154, u 155, u 156, u 157, u 158, u 159, u 160, u 161, u 162, u 163, u 164, u 165, u 166, u 167, u 168, u 169, u 170, u 171, u 172, u 173, u 174, u 175, u 176, u 177, u 178, u 179, u 180], defers := [] }
theorem frame_ex {R T A : Nat} {a : Act} (h : a = frA R T A fun i => a.tmps.getD i undef) : ∃ u, a = frA R T A u := ⟨_, h⟩
def posR (R : Nat) (w : World) : Nat := match w.cell? ⟨R, 1, none⟩ with
  | some (.int _ i) => i.toNat
  | _ => 0
def wtL : Nat → Nat
  | 0 => 0
  | 1 => 1
  | 5 => 5
  | _ => 2
/-- what is known at a label -/
def AtL (s : ByteArray) (Rz : Option (List Att × Bool × List UInt8)) (m : Nat) (ats : List Att) (x y : List UInt8) : Nat → Prop
  | 0 => ats.length ≤ m ∧ atT .bef (s.data.toList.drop m) ats = Rz
  | 1 => ats.length ≤ m ∧ atT .sla (s.data.toList.drop m) ats = Rz
  | 2 => y = [] ∧ x.length ≤ m ∧ ats.length + 1 ≤ m ∧ atT (.nam x) (s.data.toList.drop m) ats = Rz
  | 3 => y = [] ∧ ats.length + 1 ≤ m ∧ atT (.aft x) (s.data.toList.drop m) ats = Rz
  | 4 => y = [] ∧ ats.length + 1 ≤ m ∧ atT (.wan x) (s.data.toList.drop m) ats = Rz
  | 5 => y = [] ∧ ats.length + 2 ≤ m ∧ atT .bef (s.data.toList.drop (m - 1)) (ats ++ [(x, [])]) = Rz
  | _ => False
def JA (w0 : World) (R T A : Nat) (s : ByteArray) (V : Value) (kd : Int) (tn : ByteArray) (Rz : Option (List Att × Bool × List UInt8)) (l : Nat) (a : Act) (W : World) : Prop :=
  ∃ u, a = frA R T A u ∧ ∃ (m : Nat) (VA : Value) (ats : List Att) (x y : List UInt8), Co w0 W R T A s m V kd tn VA ats x y ∧ m ≤ s.size ∧ AtL s Rz m ats x y l
def muA (R : Nat) (s : ByteArray) (l : Nat) (w : World) : Nat := 4 * (s.size - posR R w) + wtL l
theorem Co.pos {w0 W : World} {R T A : Nat} {s : ByteArray} {m : Nat} {V : Value} {kd : Int} {tn : ByteArray} {VA : Value} {ats : List Att} {x y : List UInt8} (h : Co w0 W R T A s m V kd tn VA ats x y) : posR R W = m := by
  unfold posR; rw [h.c1]; simp
theorem JA.of {w0 W : World} {R T A : Nat} {s : ByteArray} {m : Nat} {V : Value} {kd : Int} {tn : ByteArray} {VA : Value} {ats : List Att} {x y : List UInt8} {Rz : Option (List Att × Bool × List UInt8)} {l N : Nat} {a : Act}
    (C : Co w0 W R T A s m V kd tn VA ats x y) (ha : a = frA R T A fun i => a.tmps.getD i undef) (hm : m ≤ s.size) (hl : AtL s Rz m ats x y l) (hN : 4 * (s.size - m) + wtL l < N) : JA w0 R T A s V kd tn Rz l a W ∧ muA R s l W < N :=
  ⟨⟨_, ha, m, VA, ats, x, y, C, hm, hl⟩, by unfold muA; rw [C.pos]; exact hN⟩
end Go.Proofs.YtihgmgpcdodknaaDoor
