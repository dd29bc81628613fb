/- Lists of texts that a call makes; the holes' texts, and what stands around them: holes.each, Regions, Rest; may. -/
import Derived.Test.YtlmnagakgchpdaaHol
import Derived.WalkLawsBesides
set_option linter.unusedVariables false
namespace Go.Proofs.Ytlmnagakgchpdaa
open Go.RowKit

theorem info_str : (Try.prog.info? 9).map (fun i => (i.zero, i.size, i.bytes)) = some (some (.string ⟨#[]⟩), 1, 16) := by kernel_rfl
/-- the value v owns, from block 'base' on, just these texts -/
def OwnS (w : World) (base : Nat) (v : Value) (l : List ByteArray) : Prop := w.ownsRow base 9 1 v l.length (l.map Value.string)
theorem OwnS.nil (w : World) (base : Nat) : OwnS w base (.slice none 0 0) [] := World.ownsRow_nil w base _ _
theorem OwnS.alloc {w : World} {base : Nat} {v : Value} {l : List ByteArray} (h : OwnS w base v l) (o : Obj) : OwnS (w.alloc o) base v l := World.ownsRow.alloc h o
theorem OwnS.drew {w : World} {base : Nat} {v : Value} {l : List ByteArray} (h : OwnS w base v l) : OwnS w.drew base v l := h
theorem OwnS.keep {w w' : World} {base : Nat} {v : Value} {l : List ByteArray} (h : OwnS w base v l) (hb : Below w.heap.size w w') : OwnS w' base v l := by
  refine World.ownsRow.kept (row := none) h ⟨hb.os, hb.tape, hb.output, hb.size, fun k hk _ => hb.block k hk⟩ ?_
  cases h0 : v.ownBlock <;> simp
theorem OwnS.base {w : World} {base : Nat} {v : Value} {l : List ByteArray} (h : OwnS w base v l) : ∀ k, v.ownBlock = some k → base ≤ k := fun k hk => (World.ownsRow.lt h k hk).1
theorem OwnS.below {B : Nat} {w0 w w' : World} {v : Value} {l : List ByteArray} (hb : Below B w0 w) (hB : B ≤ w.heap.size) (h : OwnS w B v l) (hg : w.grownBy w' v.ownBlock) : Below B w0 w' :=
  hb.grown hg hB (fun k hk => h.base k hk)
theorem OwnS.shape {w : World} {base : Nat} {v : Value} {l : List ByteArray} (h : OwnS w base v l) : ∃ ad cap, v = .slice ad l.length cap := by
  rcases h.2 with ⟨rfl, h0⟩ | ⟨g, cap, cur, rfl, _⟩
  · exact ⟨none, 0, by rw [h0]⟩
  · exact ⟨_, _, rfl⟩
theorem OwnS.shape' {w : World} {base : Nat} {v : Value} {l : List ByteArray} (h : OwnS w base v l) {k : Nat} (hk : l.length = k) : ∃ ad cap, v = .slice ad k cap := by
  obtain ⟨ad, cap, e⟩ := h.shape
  exact ⟨ad, cap, by rw [e, hk]⟩
theorem OwnS.less {w : World} {base base' : Nat} {v : Value} {l : List ByteArray} (h : OwnS w base v l) (hb : base' ≤ base) : OwnS w base' v l := by
  refine ⟨h.1, ?_⟩
  rcases h.2 with h0 | ⟨g, c, cur, e, hg, h1⟩
  · exact .inl h0
  · exact .inr ⟨g, c, cur, e, Nat.le_trans hb hg, h1⟩
theorem OwnS.ne {w : World} {base : Nat} {v : Value} {l : List ByteArray} (h : OwnS w base v l) : v.ownBlock ≠ some w.heap.size := fun e => by
  have := (World.ownsRow.lt h _ e).2
  omega
theorem OwnS.cell {w : World} {base : Nat} {A : Option Addr} {n cap : Nat} {l : List ByteArray} (h : OwnS w base (.slice A n cap) l) {k : Nat} (hk : k < l.length) : ∃ g, A = some ⟨g, 0, none⟩ ∧ w.cell? ⟨g, k, none⟩ = some (.string l[k]) := by
  rcases h.2 with ⟨e, h0⟩ | ⟨g, c, cur, e, _⟩
  · omega
  · injection e with e1 e2 e3
    subst e1
    refine ⟨g, rfl, ?_⟩
    have := World.ownsRow.cells h (g := g) rfl k (.string l[k]) (by simp [hk])
    rw [Addr.add_lit, Nat.zero_add] at this
    exact this
/-- returns texts and a number -/
def RTxt (w : World) (l : List ByteArray) (n : Int) (e : Ending) (w' : World) : Prop := ∃ (A : Option Addr) (cap : Nat) (r : Int), e = .returned (.tuple #[.slice A l.length cap, .int .i64 r]) ∧ Hid (r = n) ∧ Hid (OwnS w' w.heap.size (.slice A l.length cap) l) ∧ Below w.heap.size w w'
/-- one text more -/
theorem wpl_pushS {ops : Array Oper} {rest : List Oper} {o : Oper} {a : Act} {Q : Exit → Act → World → Prop} (hgd : o.guard = none) (s x : Operand)
    (ho : o.op = .call { callee := .builtin .append, args := #[s, x], argTypes := #[23, 23] })
    (base : Nat) (v : Value) (l : List ByteArray) (y : ByteArray) (W : World) (hown : OwnS W base v l) (hs : a.eval s = v) (g : Nat) (hx : a.eval x = .slice (some ⟨g, 0, none⟩) 1 1) (hg : g = W.heap.size)
    (hlen : l.length + 1 ≤ 1099511627776) (hbase : base ≤ W.heap.size)
    (h : ∀ v' w', OwnS w' base v' (l ++ [y]) → Below base W w' → (∀ p : Addr, p.block < W.heap.size → v.ownBlock ≠ some p.block → w'.cell? p = W.cell? p) → wpList Try.prog ops Q rest (a.put o.dst v') w') : wpList Try.prog ops Q (o :: rest) a (W.alloc (.cells #[.string y] 9)) := by
  subst hg
  obtain ⟨i0, hi, hz0, hz1, hz2⟩ := info_parts info_str
  have hown2 := hown.alloc (.cells #[.string y] 9)
  refine wpList_append_own (P := Try.prog) _ hgd s x 23 ho base 9 i0 (.string ⟨#[]⟩) 1 16 Try.underlying23 hi hz0 hz1 hz2 rfl (by decide) v l.length (l.map Value.string) hs hown2 ⟨W.heap.size, 0, none⟩ 1 1 [.string y] hx rfl ?_ (by simp [Value.oneCell']) (by unfold maxLen; omega) (by omega) (by simp; omega) ?_
  · intro j u hu
    have : j = 0 := by
      rcases Nat.lt_or_ge j 1 with h | h
      · omega
      · rw [List.getElem?_eq_none (by simpa using h)] at hu; cases hu
    subst this
    rw [Addr.add_lit, World.cell?_alloc_mark]
    simpa using hu
  · intro v' w' h1 h2 _
    refine h v' w' (by unfold OwnS; rw [List.length_append, List.map_append]; exact h1) ?_ ?_
    · exact OwnS.below ((Below.refl base W).alloc hbase _) (by simp; omega) hown2 h2
    · intro p hp hne
      rw [World.cell?_of_block (h2.block p.block (by simp; omega) (fun e => hne e.symm)), World.cell?_alloc_lt _ _ _ hp]

/-- what a hole holds -/
def Hol.of (s : ByteArray) (h : Hol) : ByteArray := s.extract h.f.toNat h.t.toNat
/-- the hole lies in a text of n octets -/
def Hol.lies (n : Nat) (h : Hol) : Prop := 0 ≤ h.f ∧ h.f ≤ h.t ∧ h.t ≤ n
/-- what stands around holes, from a place on -/
def restH (s : ByteArray) : Int → List Hol → List ByteArray
  | a, [] => [s.extract a.toNat s.size]
  | a, h :: r => s.extract a.toNat h.f.toNat :: restH s h.t r
theorem mayH_cons (n : Nat) (a : Int) (h : Hol) (r : List Hol) (hm : mayH n a (h :: r) = true) : a ≤ h.f ∧ h.f ≤ h.t ∧ h.t ≤ n ∧ mayH n h.t r = true := by
  by_cases hb : h.f < a ∨ h.t < h.f ∨ (n : Int) < h.t
  · rw [mayH_bad n a h r hb] at hm; cases hm
  · have h1 : ¬ h.f < a := fun e => hb (.inl e)
    have h2 : ¬ h.t < h.f := fun e => hb (.inr (.inl e))
    have h3 : ¬ (n : Int) < h.t := fun e => hb (.inr (.inr e))
    rw [mayH_good n a h r h1 h2 h3] at hm
    exact ⟨by omega, by omega, by omega, hm⟩
theorem may_lies (n : Nat) : ∀ (a : Int) (hs : List Hol), 0 ≤ a → mayH n a hs = true → ∀ h ∈ hs, h.lies n ∧ a ≤ h.f
  | _, [], _, _, h, hh => by cases hh
  | a, g :: r, ha, hm, h, hh => by
    by_cases hb : g.f < a ∨ g.t < g.f ∨ (n : Int) < g.t
    · rw [mayH_bad n a g r hb] at hm; cases hm
    · have h1 : ¬ g.f < a := fun e => hb (.inl e)
      have h2 : ¬ g.t < g.f := fun e => hb (.inr (.inl e))
      have h3 : ¬ (n : Int) < g.t := fun e => hb (.inr (.inr e))
      rw [mayH_good n a g r h1 h2 h3] at hm
      rcases List.mem_cons.1 hh with rfl | hh
      · exact ⟨⟨by omega, by omega, by omega⟩, by omega⟩
      · have := may_lies n g.t r (by omega) hm h hh
        exact ⟨this.1, by omega⟩

set_option maxHeartbeats 400000 in
theorem region1_any (s : ByteArray) (g : Hol) (w : World) (b : Nat) (hsz : s.size ≤ 1048576) (hl : g.lies s.size) (hc : w.cell? ⟨b, 0, none⟩ = some (.string s)) (hb : b < w.heap.size) :
    Calls Try.prog 13 #[.agg #[.int .i64 g.f, .int .i64 g.t, .int .i64 g.e, .string g.x], .pointer (some ⟨b, 0, none⟩)] w fun e w' => ∃ y : ByteArray, e = .returned (.string y) ∧ Hid (y = g.of s) ∧ Below w.heap.size w w' := by
  obtain ⟨f, t, e, x⟩ := g
  obtain ⟨h1, h2, h3⟩ := hl
  simp only at h1 h2 h3
  have HO : Hid (Hol.of s ⟨f, t, e, x⟩ = s.extract f.toNat t.toNat) := hid rfl
  go_enter Try.func13, Try.ntmps13
  go_wp2
  go_ret
  exact ⟨_, rfl, hid HO.out.symm, (Below.refl _ _).alloc (Nat.le_refl _) _⟩

set_option maxHeartbeats 800000 in
theorem each_any (s : ByteArray) (A : Option Addr) (cap : Nat) (hs : List Hol) (w : World) (b : Nat) (hsz : s.size ≤ 1048576) (hn : hs.length ≤ 1048576) (hlie : ∀ h ∈ hs, h.lies s.size) (B : Nat) (hR : HolsAt w B A hs) (hB : B ≤ w.heap.size)
    (hc : w.cell? ⟨b, 0, none⟩ = some (.string s)) (hb : b < w.heap.size) :
    Calls Try.prog 12 #[.slice A hs.length cap, .func (.func 13) #[] #[.pointer (some ⟨b, 0, none⟩)]] w fun e w' => ∃ v, e = .returned v ∧ Hid (OwnS w' w.heap.size v (hs.map (·.of s))) ∧ Below w.heap.size w w' := by
  have HR := hid hR
  have HF := hid hlie
  have HC := hid hc
  clear hR hlie hc
  obtain ⟨n, hnn⟩ : ∃ n, hs.length = n := ⟨_, rfl⟩
  have Hn := hid hnn
  rw [hnn] at hn ⊢
  clear hnn
  go_enter Try.func12, Try.ntmps12
  obtain ⟨i0, hi, hz0, hz1, hz2⟩ := info_parts info_str
  go_wp2_with (at_make; refine wpList_make_own _ rfl _ _ 23 rfl w.heap.size 9 i0 (.string ⟨#[]⟩) 1 Try.underlying23 hi hz0 hz1 _ _ _ n rfl rfl rfl (by rw [hz2]; omega) (by unfold maxLen; omega) (Nat.le_refl _) ?_; intro w0 hown0 hgrow0)
  clear hi hz0 hz1 hz2
  have hb0 : Below w.heap.size w w0 := (Below.refl _ _).grown hgrow0 (Nat.le_refl _) (by simp)
  have Hown0 := hid hown0
  clear hown0
  go_loopw [5, 13] (fun v i wr => ∃ (k : Nat) (L : List ByteArray), k ≤ n ∧ i = .int .i64 k ∧ Hid (L.length = k) ∧ Hid (L = (hs.take k).map (·.of s)) ∧ Hid (OwnS wr w.heap.size v L) ∧ Below w.heap.size w wr) (fun _ i _ => n - (intOf i).toNat)
  case atStart => exact ⟨0, [], Nat.zero_le _, rfl, hid rfl, hid rfl, hid Hown0.out, hb0⟩
  case round =>
    obtain ⟨k, L, hk, rfl, hLk, hL, hO, hbw⟩ := hrel
    obtain ⟨vad, vcap, rfl⟩ := hO.out.shape' hLk.out
    by_cases hlt : k < n
    · have hkl : k < hs.length := by rw [Hn.out]; exact hlt
      obtain ⟨ad, rfl, hbl, hc0, hc1, hc2, hc3⟩ := HolsAt.at_ (w := wr) (B := B) (A := A) (HR.out.below (hbw.mono hB)) hkl
      obtain ⟨g, hg⟩ : ∃ g : Hol, hs[k] = g := ⟨_, rfl⟩
      have hgl : g.lies s.size := HF.out g (by rw [← hg]; exact List.getElem_mem hkl)
      rw [hg] at hc0 hc1 hc2 hc3
      have Htk := hid (List.take_succ_eq_append_getElem hkl)
      rw [hg] at Htk
      clear hg hkl
      obtain ⟨f, t, e, y⟩ := g
      have hcb : wr.cell? ⟨b, 0, none⟩ = some (.string s) := (hbw.cell (p := ⟨b, 0, none⟩) hb).trans HC.out
      have hO2 := hid (hO.out.alloc (.cells #[.int .i64 f, .int .i64 t, .int .i64 e, .string y] 31))
      go_wp2_with fail
      refine (region1_any s ⟨f, t, e, y⟩ _ b hsz hgl ((World.cell?_alloc_lt _ _ _ (by have := hbw.size; show b < _; omega)).trans hcb) (by have := hbw.size; simp; omega)).mono ?_
      rintro e' w2 ⟨z, rfl, hz, hb2⟩
      have hbb2 := hbw.trans ((((Below.refl _ _).alloc (Nat.le_refl _) _).trans (hb2.mono (by simp))).mono hbw.size)
      have hO3 := hO2.out.keep hb2
      go_wp2_with (at_builtin; refine wpl_pushS rfl _ _ rfl w.heap.size _ _ _ _ hO3 rfl _ rfl rfl (by rw [hLk.out]; omega) hbb2.size ?_; intro v' w3 hO4 hb3 hk3)
      go_roundw
      case rel =>
        refine ⟨k + 1, _, by omega, by go_num, hid (by rw [List.length_append, hLk.out]; rfl), hid ?_, hid hO4, hbb2.trans hb3⟩
        rw [Htk.out, List.map_append, hz.out, hL.out]
        rfl
      case measure => simp [intOf]; omega
    · obtain rfl : k = n := by omega
      go_wp2
      go_ret
      refine ⟨.slice vad k vcap, rfl, hid ?_, hbw⟩
      have := hO.out
      rw [hL.out, List.take_of_length_le (by rw [Hn.out]; exact Nat.le_refl _)] at this
      exact this

def regH (s : ByteArray) (hs : List Hol) : List ByteArray := if mayH s.size 0 hs then hs.map (·.of s) else []
def rstH (s : ByteArray) (hs : List Hol) : List ByteArray := if mayH s.size 0 hs then restH s 0 hs else []
theorem restH_len (s : ByteArray) : ∀ (hs : List Hol) (a : Int), (restH s a hs).length = hs.length + 1
  | [], _ => rfl
  | h :: r, a => by rw [restH, List.length_cons, restH_len s r, List.length_cons]

set_option maxHeartbeats 800000 in
theorem regions_any (s : ByteArray) (A : Option Addr) (cap : Nat) (hs : List Hol) (w : World) (hsz : s.size ≤ 1048576) (hn : hs.length ≤ 1048576) (hfit : ∀ h ∈ hs, h.fits) (B : Nat) (hR : HolsAt w B A hs) (hB : B ≤ w.heap.size) :
    Calls Try.prog 5 #[.string s, .slice A hs.length cap] w (RTxt w (regH s hs) (chkR s.size hs)) := by
  have HR := hid hR
  have HF := hid hfit
  obtain ⟨m, hm⟩ : ∃ m, mayH s.size 0 hs = m := ⟨_, rfl⟩
  have Hm := hid hm
  have Hl := hid (may_lies s.size 0 hs (by omega))
  have hcall := fun (W : World) (h1 : HolsAt W B A hs) (h2 : B ≤ W.heap.size) => check_any s A cap hs W hsz hn hfit B h1 h2
  have Hcall := hid hcall
  have hE := fun (W : World) (b : Nat) (hl : ∀ h ∈ hs, h.lies s.size) (h1 : HolsAt W B A hs) (h2 : B ≤ W.heap.size) (h3 : W.cell? ⟨b, 0, none⟩ = some (.string s)) (h4 : b < W.heap.size) => each_any s A cap hs W b hsz hn hl B h1 h2 h3 h4
  have HE := hid hE
  clear hR hfit hm hcall hE
  obtain ⟨n, hnn⟩ : ∃ n, hs.length = n := ⟨_, rfl⟩
  have Hn := hid hnn
  rw [hnn] at hn ⊢
  rw [hnn] at Hcall HE
  clear hnn
  go_enter Try.func5, Try.ntmps5
  go_wp2_with fail
  refine (Hcall.out _ (HR.out.alloc hB _) (by simp; omega)).mono ?_
  rintro e w1 ⟨r, rfl, hr, hb1⟩
  have hc1 : w1.cell? ⟨w.heap.size, 0, none⟩ = some (.string s) := (hb1.cell (p := ⟨w.heap.size, 0, none⟩) (by simp)).trans (by simp)
  have hbb1 : Below w.heap.size w w1 := ((Below.refl _ _).alloc (Nat.le_refl _) _).trans (hb1.mono (by simp))
  have hz1 : w.heap.size < w1.heap.size := by have := hb1.size; simp at this; omega
  cases m with
  | false =>
    obtain rfl : r = 4 := by rw [hr.out]; unfold chkR; rw [Hm.out]; rfl
    go_wp2
    go_ret2
    refine ⟨none, 0, 4, ?_, hid ?_, hid ?_, hbb1⟩
    · unfold regH; rw [Hm.out]; rfl
    · unfold chkR; rw [Hm.out]; rfl
    · unfold regH; rw [Hm.out]; exact OwnS.nil _ _
  | true =>
    obtain rfl : r = 0 := by rw [hr.out]; unfold chkR; rw [Hm.out]; rfl
    have Hc1 := hid hc1
    clear hc1
    go_wp2_with fail
    refine (HE.out _ w.heap.size (fun h hh => (Hl.out Hm.out h hh).1) (HR.out.below (hbb1.mono hB)) (by omega) Hc1.out hz1).mono ?_
    rintro e w2 ⟨v, rfl, hv, hb2⟩
    obtain ⟨vA, vc, rfl⟩ := hv.out.shape' (k := n) (by rw [List.length_map]; exact Hn.out)
    go_wp2
    go_ret2
    have hreg : regH s hs = hs.map (·.of s) := by unfold regH; rw [Hm.out]; rfl
    have hrl : (regH s hs).length = n := by rw [hreg, List.length_map]; exact Hn.out
    refine ⟨vA, vc, 0, ?_, hid ?_, hid ?_, hbb1.trans (hb2.mono (by omega))⟩
    · rw [hrl]; rfl
    · unfold chkR; rw [Hm.out]; rfl
    · rw [hrl, hreg]
      exact hv.out.less (by omega)

set_option maxHeartbeats 800000 in
theorem rest_any (s : ByteArray) (A : Option Addr) (cap : Nat) (hs : List Hol) (w : World) (hsz : s.size ≤ 1048576) (hn : hs.length ≤ 1048576) (hfit : ∀ h ∈ hs, h.fits) (B : Nat) (hR : HolsAt w B A hs) (hB : B ≤ w.heap.size) :
    Calls Try.prog 6 #[.string s, .slice A hs.length cap] w (RTxt w (rstH s hs) (chkR s.size hs)) := by
  have HR := hid hR
  obtain ⟨m, hm⟩ : ∃ m, mayH s.size 0 hs = m := ⟨_, rfl⟩
  have Hm := hid hm
  have hcall := fun (W : World) (h1 : HolsAt W B A hs) (h2 : B ≤ W.heap.size) => check_any s A cap hs W hsz hn hfit B h1 h2
  have Hcall := hid hcall
  clear hR hfit hm hcall
  obtain ⟨n, hnn⟩ : ∃ n, hs.length = n := ⟨_, rfl⟩
  have Hn := hid hnn
  rw [hnn] at hn ⊢
  rw [hnn] at Hcall
  clear hnn
  go_enter Try.func6, Try.ntmps6
  go_wp2_with fail
  refine (Hcall.out _ HR.out hB).mono ?_
  rintro e w1 ⟨r, rfl, hr, hb1⟩
  cases m with
  | false =>
    obtain rfl : r = 4 := by rw [hr.out]; unfold chkR; rw [Hm.out]; rfl
    go_wp2
    go_ret2
    refine ⟨none, 0, 4, ?_, hid ?_, hid ?_, hb1⟩
    · unfold rstH; rw [Hm.out]; rfl
    · unfold chkR; rw [Hm.out]; rfl
    · unfold rstH; rw [Hm.out]; exact OwnS.nil _ _
  | true =>
    obtain rfl : r = 0 := by rw [hr.out]; unfold chkR; rw [Hm.out]; rfl
    go_wp2
    go_loopw [7, 8, 19] (fun v a i wr => ∃ (k : Nat) (x : Int) (L : List ByteArray), k ≤ n ∧ i = .int .i64 k ∧ a = .int .i64 x ∧ 0 ≤ x ∧ x ≤ s.size ∧ Hid (L.length = k) ∧ Hid (restH s 0 hs = L ++ restH s x (hs.drop k)) ∧ Hid (mayH s.size x (hs.drop k) = true) ∧ Hid (OwnS wr w.heap.size v L) ∧ Below w.heap.size w wr) (fun _ _ i _ => n - (intOf i).toNat)
    case atStart => exact ⟨0, 0, [], Nat.zero_le _, rfl, rfl, by omega, by omega, hid rfl, hid rfl, hid Hm.out, hid (OwnS.nil _ _), hb1⟩
    case round =>
      obtain ⟨k, x, L, hk, rfl, rfl, hx0, hx1, hLk, hL, hM, hO, hbw⟩ := hrel
      obtain ⟨vad, vcap, rfl⟩ := hO.out.shape' hLk.out
      by_cases hlt : k < n
      · have hkl : k < hs.length := by rw [Hn.out]; exact hlt
        obtain ⟨ad, rfl, hbl, hc0, hc1, hc2, hc3⟩ := HolsAt.at_ (w := wr) (B := B) (A := A) (HR.out.below (hbw.mono hB)) hkl
        obtain ⟨g, hg⟩ : ∃ g : Hol, hs[k] = g := ⟨_, rfl⟩
        rw [hg] at hc0 hc1 hc2 hc3
        have Hd := hid (List.drop_eq_getElem_cons hkl)
        rw [hg] at Hd
        have hmc := hM.out
        rw [Hd.out] at hmc
        obtain ⟨h1, h2, h3, h4⟩ := mayH_cons _ _ _ _ hmc
        have H4 := hid h4
        clear hg hkl hmc h4
        obtain ⟨f, t, e, y⟩ := g
        simp only at h1 h2 h3
        have hO2 := hO.out.alloc (.cells #[.int .i64 f, .int .i64 t, .int .i64 e, .string y] 31)
        have hbb2 := hbw.alloc hbw.size (.cells #[.int .i64 f, .int .i64 t, .int .i64 e, .string y] 31)
        go_wp2_with (at_builtin; refine wpl_pushS rfl _ _ rfl w.heap.size _ _ _ _ hO2 rfl _ rfl (by simp) (by rw [hLk.out]; omega) hbb2.size ?_; intro v' w3 hO4 hb3 hk3; have hc4 : w3.cell? ⟨wr.heap.size, 1, none⟩ = some (.int .i64 t) := (hk3 ⟨wr.heap.size, 1, none⟩ (by simp) (OwnS.ne hO.out)).trans (by simp); clear hk3)
        go_roundw
        case rel =>
          refine ⟨k + 1, t, _, by omega, by go_num, rfl, by omega, by omega, hid (by rw [List.length_append, hLk.out]; rfl), hid ?_, hid H4.out, hid hO4, hbb2.trans hb3⟩
          rw [hL.out, Hd.out, List.append_assoc]
          rfl
        case measure => simp [intOf]; omega
      · obtain rfl : k = n := by omega
        have hO2 := hO.out
        go_wp2_with (at_builtin; refine wpl_pushS rfl _ _ rfl w.heap.size _ _ _ _ hO2 rfl _ rfl rfl (by rw [hLk.out]; omega) hbw.size ?_; intro v' w3 hO4 hb3 hk3)
        obtain ⟨vA, vc, rfl⟩ := hO4.shape' (k := k + 1) (by rw [List.length_append, hLk.out]; rfl)
        go_ret2
        have hrl : (rstH s hs).length = k + 1 := by unfold rstH; rw [Hm.out]; show (restH s 0 hs).length = _; rw [restH_len, Hn.out]
        refine ⟨vA, vc, 0, ?_, hid ?_, hid ?_, hbw.trans hb3⟩
        · rw [hrl]; rfl
        · unfold chkR; rw [Hm.out]; rfl
        · rw [hrl]
          have h5 := hL.out
          rw [List.drop_of_length_le (by rw [Hn.out]; exact Nat.le_refl _)] at h5
          have h6 : rstH s hs = L ++ [s.extract x.toNat s.size] := by unfold rstH; rw [Hm.out]; exact h5
          rw [h6]; exact hO4
end Go.Proofs.Ytlmnagakgchpdaa
