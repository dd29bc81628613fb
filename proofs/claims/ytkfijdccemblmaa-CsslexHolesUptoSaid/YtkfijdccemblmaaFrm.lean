/- Slices of pieces; csslex.framed, Frame. -/
import Derived.Test.YtkfijdccemblmaaLex
import Derived.Test.YtkfijdccemblmaaReads
import Derived.WalkLawsBesides
import Derived.OneCell
set_option linter.unusedVariables false
namespace Go.Proofs.Ytkfijdccemblmaa
open Go.RowKit

/-- a piece as it lies -/
structure Pv where
  k : Int
  x : ByteArray
  a : Int
def Pv.cells (p : Pv) : List Value := [.int .i64 p.k, .string p.x, .int .i64 p.a]
def pvCells (l : List Pv) : List Value := l.flatMap Pv.cells
theorem pvCells_snoc (l : List Pv) (p : Pv) : pvCells (l ++ [p]) = pvCells l ++ p.cells := by simp [pvCells]
theorem pvCells_len (l : List Pv) : (pvCells l).length = l.length * 3 := by
  induction l with
  | nil => rfl
  | cons p l ih => simp only [pvCells, List.flatMap_cons, List.length_append, List.length_cons] at ih ⊢; rw [ih]; simp [Pv.cells]; omega
theorem pvCells_get (l : List Pv) (i j : Nat) (hi : i < l.length) (hj : j < 3) : (pvCells l)[i * 3 + j]? = (l[i].cells)[j]? := by
  induction l generalizing i with
  | nil => simp at hi
  | cons p l ih =>
    have e : pvCells (p :: l) = p.cells ++ pvCells l := by simp [pvCells]
    have hl : p.cells.length = 3 := rfl
    rw [e]
    cases i with
    | zero => rw [List.getElem?_append_left (by omega)]; simp
    | succ i =>
      rw [List.getElem?_append_right (by omega)]
      have h2 := ih i (by simpa using hi)
      have e2 : (i + 1) * 3 + j - p.cells.length = i * 3 + j := by omega
      rw [e2, h2]; simp
/-- the value is a slice of these pieces -/
def PvsAt (w : World) (B : Nat) (A : Option Addr) (l : List Pv) : Prop := Reads w B 3 A l.length (pvCells l)
theorem PvsAt.at_ {w : World} {B : Nat} {A : Option Addr} {l : List Pv} (h : PvsAt w B A l) {k : Nat} (hk : k < l.length) :
    ∃ ad, A = some ad ∧ ad.block < B ∧ w.cell? (ad.add (k * 3)) = some (.int .i64 l[k].k) ∧ w.cell? ⟨(ad.add (k * 3)).block, (ad.add (k * 3)).off + 1, none⟩ = some (.string l[k].x) ∧ w.cell? ⟨(ad.add (k * 3)).block, (ad.add (k * 3)).off + 2, none⟩ = some (.int .i64 l[k].a) := by
  obtain ⟨ad, e, hb, hc⟩ := h.2 (by omega)
  have e1 : ∀ j, (⟨(ad.add (k * 3)).block, (ad.add (k * 3)).off + (j + 1), none⟩ : Addr) = ad.add (k * 3 + (j + 1)) := fun j => by rw [← add_of_add, Addr.add_succ']
  refine ⟨ad, e, hb, hc (k * 3) _ (pvCells_get l k 0 hk (by omega)), ?_, ?_⟩
  · rw [e1 0]; exact hc _ _ (pvCells_get l k 1 hk (by omega))
  · rw [e1 1]; exact hc _ _ (pvCells_get l k 2 hk (by omega))
theorem info_pv : (Try.prog.info? 28).map (fun i => (i.zero, i.size, i.bytes)) = some (some (.agg #[.int .i64 0, .string ⟨#[]⟩, .int .i64 0]), 3, 32) := by kernel_rfl
/-- the value v owns, from block 'base' on, just these pieces -/
def OwnV (w : World) (base : Nat) (v : Value) (l : List Pv) : Prop := w.ownsRow base 28 3 v l.length (pvCells l)
theorem OwnV.nil (w : World) (base : Nat) : OwnV w base (.slice none 0 0) [] := World.ownsRow_nil w base _ _
theorem OwnV.alloc {w : World} {base : Nat} {v : Value} {l : List Pv} (h : OwnV w base v l) (o : Obj) : OwnV (w.alloc o) base v l := World.ownsRow.alloc h o
theorem OwnV.keep {w w' : World} {base : Nat} {v : Value} {l : List Pv} (h : OwnV w base v l) (hb : Below w.heap.size w w') : OwnV w' base v l := by
  refine World.ownsRow.kept (row := none) h ⟨hb.os, hb.tape, hb.output, hb.size, fun k hk _ => hb.block k hk⟩ ?_
  cases h0 : v.ownBlock <;> simp
theorem OwnV.ne {w : World} {base : Nat} {v : Value} {l : List Pv} (h : OwnV w base v l) : v.ownBlock ≠ some w.heap.size := fun e => by
  have := (World.ownsRow.lt h _ e).2
  omega
theorem OwnV.shape {w : World} {base : Nat} {v : Value} {l : List Pv} (h : OwnV w base v l) {k : Nat} (hk : l.length = k) : ∃ ad cap, v = .slice ad k cap := by
  subst hk
  rcases h.2 with ⟨rfl, h0⟩ | ⟨g, cap, cur, rfl, _⟩
  · exact ⟨none, 0, by rw [h0]⟩
  · exact ⟨_, _, rfl⟩
theorem OwnV.reads {w : World} {base : Nat} {A : Option Addr} {n cap : Nat} {l : List Pv} (h : OwnV w base (.slice A n cap) l) (hn : l.length = n) : PvsAt w w.heap.size A l := by
  unfold PvsAt
  unfold OwnV at h
  rw [hn] at h ⊢
  exact Reads.of_own h
/-- one piece more -/
theorem wpl_pushV {ops : Array Oper} {rest : List Oper} {o : Oper} {a : Act} {Q : Exit → Act → World → Prop} (hgd : o.guard = none) (s x : Operand)
    (ho : o.op = .call { callee := .builtin .append, args := #[s, x], argTypes := #[23, 23] })
    (base : Nat) (v : Value) (l : List Pv) (p : Pv) (W : World) (hown : OwnV W base v l) (hs : a.eval s = v) (g : Nat) (hx : a.eval x = .slice (some ⟨g, 0, none⟩) 1 1) (hg : g = W.heap.size)
    (hlen : l.length + 1 ≤ 1099511627776) (hbase : base ≤ W.heap.size)
    (h : ∀ v' w', OwnV w' base v' (l ++ [p]) → Below base W w' → wpList Try.prog ops Q rest (a.put o.dst v') w') : wpList Try.prog ops Q (o :: rest) a (W.alloc (.cells #[.int .i64 p.k, .string p.x, .int .i64 p.a] 28)) := by
  subst hg
  obtain ⟨i0, hi, hz0, hz1, hz2⟩ := info_parts info_pv
  have hown2 := hown.alloc (.cells #[.int .i64 p.k, .string p.x, .int .i64 p.a] 28)
  refine wpList_append_own (P := Try.prog) _ hgd s x 23 ho base 28 i0 (.agg #[.int .i64 0, .string ⟨#[]⟩, .int .i64 0]) 3 32 Try.underlying23 hi hz0 hz1 hz2 rfl (by decide) v l.length (pvCells l) hs hown2 ⟨W.heap.size, 0, none⟩ 1 1 p.cells hx rfl
    (World.news_of_block (cs := #[.int .i64 p.k, .string p.x, .int .i64 p.a]) (t := 28) (fr := (0, 0)) (heap_alloc_new W _)) (by simp [Pv.cells, Value.oneCell']) (by unfold maxLen; omega) (by omega) (by simp; omega) ?_
  intro v' w' h1 h2 _
  refine h v' w' (by unfold OwnV; rw [List.length_append, pvCells_snoc]; exact h1) ?_
  exact ((Below.refl base W).alloc hbase _).grown h2 (by simp; omega) (fun k hk => (World.ownsRow.lt hown2 k hk).1)

/-- is a piece one of the frame's? -/
def frB (p : Pv) : Bool := p.k == 2 || p.k == 3 || p.k == 4 || (p.k == 5 && match p.x.data.toList with | [] => false | c :: _ => decide (0 ≤ Lib.indexByte [123, 125, 40, 41, 91, 93, 59, 58, 64, 92] c))
def frV (l : List Pv) : List Pv := (l.filter frB).map fun p => { p with a := 0 }

set_option maxHeartbeats 800000 in
theorem framed_any (p : Pv) (w : World) : Calls Try.prog 17 #[.agg #[.int .i64 p.k, .string p.x, .int .i64 p.a]] w (RBool w (frB p)) := by
  obtain ⟨k, x, a⟩ := p
  have hb : Below w.heap.size w (w.alloc (.cells #[.int .i64 k, .string x, .int .i64 a] 28)) := (Below.refl _ _).alloc (Nat.le_refl _) _
  have HF := hid (show frB ⟨k, x, a⟩ = (k == 2 || k == 3 || k == 4 || (k == 5 && match x.data.toList with | [] => false | c :: _ => decide (0 ≤ Lib.indexByte [123, 125, 40, 41, 91, 93, 59, 58, 64, 92] c))) from rfl)
  by_cases h2 : k = 2
  · subst h2
    go_enter Try.func17, Try.ntmps17
    go_wp2
    go_ret
    exact ⟨_, rfl, hid (by rw [HF.out]; rfl), hb⟩
  · by_cases h3 : k = 3
    · subst h3
      go_enter Try.func17, Try.ntmps17
      go_wp2
      go_ret
      exact ⟨_, rfl, hid (by rw [HF.out]; rfl), hb⟩
    · by_cases h4 : k = 4
      · subst h4
        go_enter Try.func17, Try.ntmps17
        go_wp2
        go_ret
        exact ⟨_, rfl, hid (by rw [HF.out]; rfl), hb⟩
      · have b2 : (k == 2) = false := beq_eq_false_iff_ne.2 h2
        have b3 : (k == 3) = false := beq_eq_false_iff_ne.2 h3
        have b4 : (k == 4) = false := beq_eq_false_iff_ne.2 h4
        by_cases h5 : k = 5
        · subst h5
          by_cases h0 : x.size = 0
          · obtain rfl : x = ⟨#[]⟩ := by
              cases x with
              | mk d => simp only [ByteArray.mk.injEq]; exact Array.eq_empty_of_size_eq_zero h0
            go_enter Try.func17, Try.ntmps17
            go_wp2
            go_ret
            exact ⟨_, rfl, hid (by rw [HF.out]; rfl), hb⟩
          · have hx0 : 0 < x.size := by omega
            obtain ⟨n, hn, hn0, hn1, hbn⟩ := byte_of x 0 hx0
            have Hd := hid (drop_at x 0 hx0)
            have hne : (x.toList == []) = false := by
              rw [beq_eq_false_iff_ne]
              intro e
              have := congrArg List.length e
              rw [ByteArray.toList_eq, len_data] at this
              exact h0 this
            have hne2 : x.toList ≠ [] := beq_eq_false_iff_ne.1 hne
            have hne3 : x.toList.isEmpty = false := by rw [List.isEmpty_eq_false_iff]; exact hne2
            have Hbn := hid hbn
            obtain ⟨i, hi⟩ : ∃ i, Lib.indexByte [123, 125, 40, 41, 91, 93, 59, 58, 64, 92] (bOf n) = i := ⟨_, rfl⟩
            have Hi := hid hi
            have HI : Hid (∀ W, Calls Try.prog 27 #[.string ⟨#[123, 125, 40, 41, 91, 93, 59, 58, 64, 92]⟩, .int .u8 n] W fun e w' => e = .returned (.int .i64 i) ∧ w' = W) := hid (fun W => (Try.strings_IndexByte ⟨#[123, 125, 40, 41, 91, 93, 59, 58, 64, 92]⟩ n W).mono (by rintro e w' ⟨rfl, rfl⟩; exact ⟨ret_int hi, rfl⟩))
            have HR : Hid (frB ⟨5, x, a⟩ = decide (0 ≤ i)) := hid (by
              have h1 := Hd.out
              rw [List.drop_zero, ← Hbn.out] at h1
              rw [HF.out, h1, ← Hi.out]; rfl)
            clear hbn hi
            go_enter Try.func17, Try.ntmps17
            go_wp2_with fail
            refine (HI.out _).mono ?_
            rintro e w1 ⟨rfl, hw⟩
            obtain rfl := hw.symm
            go_wp2
            go_ret
            exact ⟨_, rfl, hid (by rw [HR.out]), hb⟩
        · have b5 : (k == 5) = false := beq_eq_false_iff_ne.2 h5
          go_enter Try.func17, Try.ntmps17
          go_wp2
          go_ret
          exact ⟨_, rfl, hid (by rw [HF.out, b2, b3, b4, b5]; rfl), hb⟩

theorem frV_take (l : List Pv) (k : Nat) (h : k < l.length) : frV (l.take (k + 1)) = if frB l[k] then frV (l.take k) ++ [{ l[k] with a := 0 }] else frV (l.take k) := by
  unfold frV
  rw [List.take_succ_eq_append_getElem h, List.filter_append, List.map_append]
  by_cases hb : frB l[k] = true
  · rw [if_pos hb]; simp [hb]
  · rw [if_neg hb]; simp [hb]
theorem frV_len (l : List Pv) : (frV l).length ≤ l.length := by unfold frV; rw [List.length_map]; exact List.length_filter_le _ _
/-- returns pieces -/
def RPv (w : World) (l : List Pv) (e : Ending) (w' : World) : Prop := ∃ (A : Option Addr) (n cap : Nat), e = .returned (.slice A n cap) ∧ Hid (l.length = n) ∧ Hid (OwnV w' w.heap.size (.slice A n cap) l) ∧ Below w.heap.size w w'

set_option maxHeartbeats 1600000 in
theorem frame_any (A : Option Addr) (cap : Nat) (l : List Pv) (w : World) (hn : l.length ≤ 1048600) (B : Nat) (hR : PvsAt w B A l) (hB : B ≤ w.heap.size) :
    Calls Try.prog 10 #[.slice A l.length cap] w (RPv w (frV l)) := by
  have HR := hid hR
  clear hR
  obtain ⟨n, hnn⟩ : ∃ n, l.length = n := ⟨_, rfl⟩
  have Hn := hid hnn
  rw [hnn] at hn ⊢
  clear hnn
  go_enter Try.func10, Try.ntmps10
  go_wp2
  go_loopw [3, 8] (fun v i wr => ∃ (k : Nat) (L : List Pv), k ≤ n ∧ i = .int .i64 k ∧ L.length ≤ k ∧ Hid (L = frV (l.take k)) ∧ Hid (OwnV wr w.heap.size v L) ∧ Below w.heap.size w wr) (fun _ i _ => n - (intOf i).toNat)
  case atStart => exact ⟨0, [], Nat.zero_le _, rfl, Nat.le_refl _, hid rfl, hid (OwnV.nil _ _), Below.refl _ _⟩
  case round =>
    obtain ⟨k, L, hk, rfl, hLk, hL, hO, hb⟩ := hrel
    obtain ⟨m, hm⟩ : ∃ m, L.length = m := ⟨_, rfl⟩
    obtain ⟨vA, vc, rfl⟩ := hO.out.shape hm
    have Hm := hid hm
    rw [hm] at hLk
    clear hm
    by_cases hlt : k < n
    · have hkl : k < l.length := by rw [Hn.out]; exact hlt
      obtain ⟨ad, rfl, hbl, hc0, hc1, hc2⟩ := PvsAt.at_ (w := wr) (B := B) (A := A) (HR.out.below (hb.mono hB)) hkl
      have Htk := hid (frV_take l k hkl)
      obtain ⟨p, hp⟩ : ∃ p : Pv, l[k] = p := ⟨_, rfl⟩
      rw [hp] at hc0 hc1 hc2 Htk
      clear hp hkl
      have hfr := fun W => framed_any p W
      obtain ⟨fb, hfb⟩ : ∃ fb, frB p = fb := ⟨_, rfl⟩
      rw [hfb] at Htk
      simp only [hfb] at hfr
      clear hfb
      obtain ⟨kd, x, a⟩ := p
      have Hfr := hid hfr
      clear hfr
      go_wp2_with fail
      refine (Hfr.out _).mono ?_
      rintro e w1 ⟨r, rfl, hr, hb1⟩
      obtain rfl : r = fb := hr.out
      have hbb1 : Below w.heap.size w w1 := hb.trans ((((Below.refl _ _).alloc (Nat.le_refl _) _).trans (hb1.mono (by simp))).mono hb.size)
      have hO1 := hid ((hO.out.alloc (.cells #[.int .i64 kd, .string x, .int .i64 a] 28)).keep hb1)
      have hBk : Blk w1 wr.heap.size 28 #[.int .i64 kd, .string x, .int .i64 a] := (Blk.new wr _ _).below hb1 (by simp)
      have d0 : w1.cell? ⟨wr.heap.size, 0, none⟩ = some (.int .i64 kd) := (hBk.cell 0).trans rfl
      have d1 : w1.cell? ⟨wr.heap.size, 1, none⟩ = some (.string x) := (hBk.cell 1).trans rfl
      have d2 : w1.cell? ⟨wr.heap.size, 2, none⟩ = some (.int .i64 a) := (hBk.cell 2).trans rfl
      have f2 : w1.frozen? ⟨wr.heap.size, 2, none⟩ = false := hBk.frozen 2
      cases r with
      | false =>
        clear d0 d1 d2 f2 hc0 hc1 hc2
        go_wp2
        go_roundw
        case rel => exact ⟨k + 1, L, by omega, by go_num, by rw [Hm.out]; omega, hid (by rw [Htk.out, hL.out]; rfl), hid hO1.out, hbb1⟩
        case measure => simp [intOf]; omega
      | true =>
        clear hc0 hc1 hc2
        have hBk2 : Blk (w1.setCell ⟨wr.heap.size, 2, none⟩ (.int .i64 0)) wr.heap.size 28 #[.int .i64 kd, .string x, .int .i64 0] := hBk.set_ 2 _
        have e0 : (w1.setCell ⟨wr.heap.size, 2, none⟩ (.int .i64 0)).cell? ⟨wr.heap.size, 0, none⟩ = some (.int .i64 kd) := (hBk2.cell 0).trans rfl
        have e1 : (w1.setCell ⟨wr.heap.size, 2, none⟩ (.int .i64 0)).cell? ⟨wr.heap.size, 1, none⟩ = some (.string x) := (hBk2.cell 1).trans rfl
        have e2 : (w1.setCell ⟨wr.heap.size, 2, none⟩ (.int .i64 0)).cell? ⟨wr.heap.size, 2, none⟩ = some (.int .i64 0) := (hBk2.cell 2).trans rfl
        have hO2 : OwnV (w1.setCell ⟨wr.heap.size, 2, none⟩ (.int .i64 0)) w.heap.size (.slice vA m vc) L := ownsRow_setCell_other hO1.out (a := ⟨wr.heap.size, 2, none⟩) (hO.out.ne) _
        have hbb2 : Below w.heap.size w (w1.setCell ⟨wr.heap.size, 2, none⟩ (.int .i64 0)) := hbb1.setCell (by show w.heap.size ≤ wr.heap.size; exact hb.size) _
        go_wp2_with (at_builtin; refine wpl_pushV rfl _ _ rfl w.heap.size _ _ ⟨kd, x, 0⟩ _ hO2 rfl _ rfl (by simp) (by rw [Hm.out]; omega) hbb2.size ?_; intro v' w3 hO4 hb3)
        go_roundw
        case rel => exact ⟨k + 1, _, by omega, by go_num, by rw [List.length_append, Hm.out]; simp; omega, hid (by rw [Htk.out, hL.out]; rfl), hid hO4, hbb2.trans hb3⟩
        case measure => simp [intOf]; omega
    · obtain rfl : k = n := by omega
      go_wp2
      go_ret
      have hf := hL.out
      rw [List.take_of_length_le (by rw [Hn.out]; exact Nat.le_refl _)] at hf
      exact ⟨vA, m, vc, rfl, hid (by rw [← hf]; exact Hm.out), hid (by rw [← hf]; exact hO.out), hb⟩
end Go.Proofs.Ytkfijdccemblmaa
