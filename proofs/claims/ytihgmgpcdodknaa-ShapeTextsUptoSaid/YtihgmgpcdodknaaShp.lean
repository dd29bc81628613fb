import Derived.Test.YtihgmgpcdodknaaSam
import Derived.Test.YtihgmgpcdodknaaBak
import Derived.Test.YtihgmgpcdodknaaRd0
import Derived.BigRegion
set_option linter.unusedVariables false
/- shape.bare, each, Of. -/
namespace Go.Proofs.Ytihgmgpcdodknaa
open Go.RowKit

def shA (l : List Att) : List Att := l.map fun a => (a.1, [])
def shT (t : Tk) : Tk := { t with ats := shA t.ats }
def shapeL (l : List Tk) : List Tk := (l.filter noT).map shT
theorem shA_snoc (l : List Att) (i : Nat) (h : i < l.length) : shA (l.take (i + 1)) = shA (l.take i) ++ [(l[i].1, [])] := by
  unfold shA
  rw [List.take_succ_eq_append_getElem h, List.map_append]; rfl
theorem shapeL_text (L : List Tk) (i : Nat) (h : i < L.length) (h3 : L[i].k = 3) : shapeL (L.take (i + 1)) = shapeL (L.take i) := by
  unfold shapeL
  rw [List.take_succ_eq_append_getElem h, List.filter_append]
  have : [L[i]].filter noT = [] := by rw [List.filter_cons, if_neg (by unfold noT; rw [h3]; decide)]; rfl
  rw [this, List.append_nil]
theorem shapeL_tag (L : List Tk) (i : Nat) (h : i < L.length) (h3 : L[i].k ≠ 3) : shapeL (L.take (i + 1)) = shapeL (L.take i) ++ [shT L[i]] := by
  unfold shapeL
  rw [List.take_succ_eq_append_getElem h, List.filter_append]
  have : [L[i]].filter noT = [L[i]] := by rw [List.filter_cons, if_pos (by unfold noT; simpa using h3)]; rfl
  rw [this, List.map_append]; rfl
theorem shapeL_len (L : List Tk) : (shapeL L).length ≤ L.length := by
  unfold shapeL
  rw [List.length_map]
  exact List.length_filter_le _ _
theorem shBare_any (a b : ByteArray) (w : World) : Calls Try.prog 45 #[.agg #[.string a, .string b]] w fun e w' => e = .returned (.agg #[.string a, .string ⟨#[]⟩]) ∧ Below w.heap.size w w' := by
  go_enter Try.func45, Try.ntmps45
  go_wp2
  go_returns
  exact ⟨rfl, ((Below.refl _ _).alloc (Nat.le_refl _) _).alloc (by simp) _⟩
theorem own_shp {w : World} {base : Nat} {e : TypeId} {size n : Nat} {v : Value} {xs : List Value} (h : w.ownsRow base e size v n xs) : ∃ A c, v = .slice A n c := by
  rcases h.2 with ⟨rfl, rfl⟩ | ⟨g, cap, cur, rfl, _⟩
  · exact ⟨none, 0, rfl⟩
  · exact ⟨_, _, rfl⟩
/-- append(attributes, a) where a lies in a block of its own -/
theorem wpl_att {ops : Array Oper} {rest : List Oper} {o : Oper} {a : Act} {Q : Exit → Act → World → Prop} (hgd : o.guard = none) (s x : Operand)
    (ho : o.op = .call { callee := .builtin .append, args := #[s, x], argTypes := #[34, 34] })
    (base : Nat) (v : Value) (l : List Att) (b1 b2 : ByteArray) (W : World) (hown : OwnA W base v l) (hs : a.eval s = v) (hx : a.eval x = .slice (some ⟨W.heap.size, 0, none⟩) 1 1)
    (hn : l.length ≤ 1099511627776) (hbase : base ≤ W.heap.size)
    (h : ∀ v' w', OwnA w' base v' (l ++ [(b1.data.toList, b2.data.toList)]) → (W.alloc (.cells #[.string b1, .string b2] 39)).grownBy w' v.ownBlock → wpList Try.prog ops Q rest (a.put o.dst v') w') :
    wpList Try.prog ops Q (o :: rest) a (W.alloc (.cells #[.string b1, .string b2] 39)) := by
  obtain ⟨i0, hi, hz0, hz1, hz2⟩ := info_parts info_at
  refine wpList_append_own (P := Try.prog) _ hgd s x 34 ho base 39 i0 _ 2 32 Try.underlying34 hi hz0 hz1 hz2 rfl (by omega) v l.length (attCells l) hs (World.ownsRow.alloc hown _)
    ⟨W.heap.size, 0, none⟩ 1 1 [.string b1, .string b2] hx (by rfl) (World.news_of_block (cs := #[.string b1, .string b2]) (t := 39) (fr := (0, 0)) (heap_alloc_new W _)) (by simp [Value.oneCell'])
    (by unfold maxLen; omega) (by omega) (by simp; omega) ?_
  intro v' w' h1 h2 _
  refine h v' w' ?_ h2
  unfold OwnA
  rw [attCells_snoc, List.length_append, ← bs_of (t := b1) rfl, ← bs_of (t := b2) rfl]
  exact h1
theorem OwnA.below {B : Nat} {w0 w w' : World} {v : Value} {l : List Att} (hb : Below B w0 w) (hB : B ≤ w.heap.size) (h : OwnA w B v l) (hg : w.grownBy w' v.ownBlock) : Below B w0 w' :=
  hb.grown hg hB (fun k hk => (World.ownsRow.lt h k hk).1)
theorem OwnA.keep {w w' : World} {base : Nat} {v : Value} {l : List Att} (h : OwnA w base v l) (hb : Below w.heap.size w w') : OwnA w' base v l := by
  refine World.ownsRow.kept (row := none) h ⟨hb.os, hb.tape, hb.output, hb.size, fun k hk _ => hb.block k hk⟩ ?_
  cases h0 : v.ownBlock <;> simp
set_option maxRecDepth 100000 in
set_option maxHeartbeats 3200000 in
theorem each_any (l : List Att) (V : Value) (w : World) (hl : l.length ≤ 1099511627776) (hV : AtR w w.heap.size V l) :
    Calls Try.prog 44 #[V, .func (.func 45) #[] #[]] w fun e w' => ∃ V', e = .returned V' ∧ OwnA w' w.heap.size V' (shA l) ∧ Below w.heap.size w w' := by
  obtain ⟨A, ca, rfl, hr⟩ := hV
  obtain ⟨n, hn⟩ : ∃ n, l.length = n := ⟨_, rfl⟩
  rw [hn] at hr hl ⊢
  have Hr := hid hr
  have Hn := hid hn
  have Hb := hid (fun a b W => shBare_any a b W)
  clear hr hn
  obtain ⟨i0, hi, hz0, hz1, hz2⟩ := info_parts info_at
  obtain ⟨w0, hmk, hown0, hg0⟩ := run_make_own (P := Try.prog) w w.heap.size 34 39 i0 _ 2 Try.underlying34 hi hz0 hz1 .i64 .i64 n (by rw [hz2]; omega) (by unfold maxLen; omega) (Nat.le_refl _)
  have Hb0 : Hid (Below w.heap.size w w0) := hid ⟨hg0.os, hg0.tape, hg0.output, hg0.size, fun k hk => hg0.block k hk (by simp)⟩
  have HO := hid hown0
  clear hown0 hg0 hi hz0 hz1 hz2
  go_enter Try.func44, Try.ntmps44
  go_wp2
  go_loopg [5, 13] n (fun g v5 v13 wr => ∃ i : Nat, v13 = .int .i64 (i : Int) ∧ i ≤ n ∧ g = n - i ∧ Hid (OwnA wr w.heap.size v5 (shA (l.take i))) ∧ Hid (Below w.heap.size w wr))
  case atStart => exact ⟨0, rfl, Nat.zero_le _, rfl, HO, Hb0⟩
  case round =>
    obtain ⟨i, rfl, hi, rfl, hO, hb⟩ := hrel
    by_cases hlt : i < n
    · have hi0 : (0 : Int) ≤ (i : Int) := by omega
      have hi1 : (i : Int) < (n : Int) := by omega
      have hi2 : decide ((i : Int) < (n : Int)) = true := decide_eq_true hi1
      have hll : i < l.length := by rw [Hn.out]; exact hlt
      obtain ⟨ad, rfl, hadb, q1, q2⟩ := at_cells (by rw [Hn.out]; exact Hr.out.below hb.out) hll
      obtain ⟨s1, hs1⟩ : ∃ z, bs l[i].1 = z := ⟨_, rfl⟩
      obtain ⟨s2, hs2⟩ : ∃ z, bs l[i].2 = z := ⟨_, rfl⟩
      rw [hs1] at q1
      rw [hs2] at q2
      have hlen := hid (show (shA (l.take i)).length ≤ 1099511627776 from by unfold shA; rw [List.length_map, List.length_take]; omega)
      obtain ⟨A5, c5, rfl⟩ := own_shp hO.out
      have Hs1 := hid hs1
      have Hsz := hid hb.out.size
      clear hs1 hs2
      go_wp2_with (first
        | (refine (Hb.out _ _ _).mono ?_; rintro e1 w1 ⟨rfl, hb1⟩; have hbb := hid ((alloc_below wr (.cells #[.string s1, .string s2] 39)).trans (hb1.mono (by simp))); have HO1 := hid (hO.out.keep hbb.out))
        | (at_builtin; refine wpl_att rfl _ _ rfl w.heap.size _ _ s1 ⟨#[]⟩ _ HO1.out rfl rfl hlen.out (Nat.le_trans Hsz.out hbb.out.size) ?_; intro V' w3 hO3 hg3))
      go_roundg (n - (i + 1))
      case measure => omega
      case rel =>
        refine ⟨i + 1, by go_num, by omega, rfl, hid ?_, hid ?_⟩
        · have h9 := hO3
          rw [← Hs1.out] at h9
          rw [shA_snoc l i hll]
          exact h9
        · have h1 := hb.out.trans (hbb.out.mono Hsz.out)
          exact OwnA.below (h1.alloc (Nat.le_trans Hsz.out hbb.out.size) _) (Nat.le_trans (Nat.le_trans Hsz.out hbb.out.size) (by simp)) (World.ownsRow.alloc HO1.out _) hg3
    · obtain rfl : i = n := by omega
      go_wp2
      go_ret
      refine ⟨_, rfl, ?_, hb.out⟩
      have := hO.out
      rwa [List.take_of_length_le (by rw [Hn.out]; exact Nat.le_refl _)] at this
end Go.Proofs.Ytihgmgpcdodknaa
/- shape.Of. -/
namespace Go.Proofs.Ytihgmgpcdodknaa
open Go.RowKit

theorem OwnA.more_ {w : World} {base B : Nat} {v : Value} {l : List Att} (h : OwnA w B v l) (hb : base ≤ B) : OwnA w base v l := by
  refine ⟨h.1, ?_⟩
  rcases h.2 with h0 | ⟨g, cap, cur, e, hb0, h1⟩
  · exact .inl h0
  · exact .inr ⟨g, cap, cur, e, Nat.le_trans hb hb0, h1⟩
theorem OwnL.keep {w w' : World} {base B : Nat} {V : Value} {L : List Tk} (h : OwnL w base B V L) (hb : Below w.heap.size w w') : OwnL w' base B V L :=
  OwnL.stay h (fun g cur hc => hb.block g (Blk.lt (t := 36) (cs := cur) hc)) (fun g cur _ hc => hb.block g (Blk.lt (t := 39) (cs := cur) hc))
theorem OwnL.up {w : World} {base B B' : Nat} {V : Value} {L : List Tk} (h : OwnL w base B V L) (hB : B ≤ B') : OwnL w base B' V L := by
  obtain ⟨cs, h1, h2, h3⟩ := h
  exact ⟨cs, h1, fun v hv g hg => Nat.lt_of_lt_of_le (h2 v hv g hg) hB, h3⟩
theorem OwnA.setT {w : World} {T : Nat} {V v : Value} {l : List Att} {j : Nat} (h : OwnA w (T + 1) V l) : OwnA (w.setCell ⟨T, j, none⟩ v) (T + 1) V l :=
  OwnA.stay h fun g cur hg _ => Below.heap_setCell w _ _ g (by show g ≠ T; omega)
/-- tokens, grown by one -/
theorem OwnL.snocE {w w' : World} {base B n : Nat} {V V' : Value} {L : List Tk} {xs : List Value} {k : Int} {tn tx : ByteArray} {va : Value} {ats : List Att} {cl : Bool} (hbB : base ≤ B) (hBs : B ≤ w.heap.size) (hrow : ∃ cs0, TkCells w base cs0 L ∧ (∀ v ∈ cs0, ∀ g, v.ownBlock = some g → g < B) ∧ w.ownsRow base 36 5 V L.length cs0 ∧ xs = cs0 ++ [.int .i64 k, .string tn, .string tx, va, .bool cl])
    (ha : OwnA w B va ats) (hg : w.grownBy w' V.ownBlock) (hn : L.length = n) (ho : w'.ownsRow base 36 5 V' (n + 1) xs) : OwnL w' base w'.heap.size V' (L ++ [⟨k, tn.data.toList, tx.data.toList, ats, cl⟩]) := by
  obtain ⟨cs0, hc, hb, ho1, rfl⟩ := hrow
  have key : ∀ (g : Nat) (t : TypeId) (cur : Array Value), t ≠ 36 → w.heap[g]? = some (.cells cur t (0, 0)) → w'.heap[g]? = w.heap[g]? := fun g t cur ht hc =>
    hg.block g (Blk.lt (t := t) (cs := cur) hc) fun e => own_blk_ne ho1 (t := t) (cs := cur) hc (Ne.symm ht) e.symm
  have hA : OwnA w' B va ats := OwnA.stay ha fun g cur _ hc => key g _ cur (by decide) hc
  refine ⟨cs0 ++ [.int .i64 k, .string tn, .string tx, va, .bool cl], ?_, ?_, ?_⟩
  · have := TkCells.snoc (t := ⟨k, tn.data.toList, tx.data.toList, ats, cl⟩) (va := va) (hA.more_ hbB) L cs0 (TkCells.mapIn L cs0 (fun v _ l ha => own_stay ha fun g cur _ hc => key g _ cur (by decide) hc) hc)
    rw [← bs_of (t := tn) rfl, ← bs_of (t := tx) rfl] at this
    exact this
  · intro v hv g0 hg0
    rcases List.mem_append.1 hv with h1 | h1
    · have := hb v h1 g0 hg0
      have := hg.size
      omega
    · simp only [List.mem_cons, List.not_mem_nil, or_false] at h1
      rcases h1 with rfl | rfl | rfl | rfl | rfl
      · cases hg0
      · cases hg0
      · cases hg0
      · exact (World.ownsRow.lt hA g0 hg0).2
      · cases hg0
  · rw [List.length_append, hn]
    exact ho
/-- append(tokens, t) where t lies in a block of its own -/
theorem wpl_tkL {ops : Array Oper} {rest : List Oper} {o : Oper} {a : Act} {Q : Exit → Act → World → Prop} (hgd : o.guard = none) (s x : Operand)
    (ho : o.op = .call { callee := .builtin .append, args := #[s, x], argTypes := #[22, 22] })
    (base B : Nat) (v : Value) (L : List Tk) (n : Nat) (k : Int) (tn tx : ByteArray) (va : Value) (ats : List Att) (c : Bool) (W : World) (hown : OwnL W base B v L) (hnL : L.length = n) (hs : a.eval s = v) (hx : a.eval x = .slice (some ⟨W.heap.size, 0, none⟩) 1 1)
    (ha : OwnA W B va ats) (hn : n ≤ 1099511627776) (hbB : base ≤ B) (hBs : B ≤ W.heap.size)
    (h : ∀ v' w', OwnL w' base w'.heap.size v' (L ++ [⟨k, tn.data.toList, tx.data.toList, ats, c⟩]) → Below base W w' → wpList Try.prog ops Q rest (a.put o.dst v') w') :
    wpList Try.prog ops Q (o :: rest) a (W.alloc (.cells #[.int .i64 k, .string tn, .string tx, va, .bool c] 36)) := by
  obtain ⟨i0, hi, hz0, hz1, hz2⟩ := info_parts info_tk
  have hAl := alloc_below W (.cells #[.int .i64 k, .string tn, .string tx, va, .bool c] 36)
  obtain ⟨cs, hc, hb, ho1⟩ := hown.keep hAl
  have ha' : OwnA (W.alloc (.cells #[.int .i64 k, .string tn, .string tx, va, .bool c] 36)) B va ats := ha.keep hAl
  have hva : va.oneCell' = true := by
    obtain ⟨A, c', rfl⟩ := OwnA.shapeV ha rfl
    rfl
  have ho2 := ho1
  rw [hnL] at ho2
  refine wpList_append_own (P := Try.prog) _ hgd s x 22 ho base 36 i0 _ 5 72 Try.underlying22 hi hz0 hz1 hz2 rfl (by omega) v n cs hs ho2
    ⟨W.heap.size, 0, none⟩ 1 1 [.int .i64 k, .string tn, .string tx, va, .bool c] hx (by rfl) (World.news_of_block (cs := #[.int .i64 k, .string tn, .string tx, va, .bool c]) (t := 36) (fr := (0, 0)) (heap_alloc_new W _)) (by intro u hu; simp only [List.mem_cons, List.not_mem_nil, or_false] at hu; rcases hu with rfl | rfl | rfl | rfl | rfl <;> first | rfl | exact hva)
    (by unfold maxLen; omega) (by omega) (by simp; omega) ?_
  intro v' w' h1 h2 _
  refine h v' w' (OwnL.snocE (B := B) (V := v) (n := n) hbB (by simp; omega) ⟨cs, hc, hb, ho1, rfl⟩ ha' h2 hnL h1) ?_
  exact below_grown ((Below.refl base W).alloc (by omega) _) (by simp; omega) (fun g e => (World.ownsRow.lt ho1 g e).1) h2
theorem shT_eq (k : Int) (tn tx : ByteArray) (c : Bool) (t : Tk) (hk : t.k = k) (hn : bs t.n = tn) (hx : bs t.x = tx) (hc : t.c = c) : (⟨k, tn.data.toList, tx.data.toList, shA t.ats, c⟩ : Tk) = shT t := by
  subst hk; subst hn; subst hx; subst hc
  unfold shT
  rw [bs_list, bs_list]
set_option maxRecDepth 100000 in
set_option maxHeartbeats 3200000 in
theorem of_any (L : List Tk) (V : Value) (w : World) (hb : ∀ t ∈ L, t.ats.length ≤ 1099511627776) (hll : L.length ≤ 1099511627776) (hV : TkA w w.heap.size V L) :
    Calls Try.prog 27 #[V] w fun e w' => ∃ V', e = .returned V' ∧ OwnT w' w.heap.size V' (shapeL L) ∧ Below w.heap.size w w' := by
  obtain ⟨A, ca, cs, rfl, hr, ht⟩ := hV
  obtain ⟨n, hn⟩ : ∃ n, L.length = n := ⟨_, rfl⟩
  have Hb := hid hb
  have Hr := hid hr
  have Ht := hid ht
  have Hn := hid hn
  rw [hn] at hll ⊢
  clear hb hr ht hn
  obtain ⟨base, hbase⟩ : ∃ b, w.heap.size = b := ⟨_, rfl⟩
  have Hbase := hid hbase
  rw [hbase] at Hr Ht
  have Hea := hid (fun l V W => each_any l V W)
  go_enter Try.func27, Try.ntmps27
  go_wp2
  clear hbase
  go_loopg [3, 8] n (fun g v3 v8 wr => ∃ (i : Nat) (B : Nat), v8 = .int .i64 (i : Int) ∧ i ≤ n ∧ g = n - i ∧ base ≤ B ∧ B ≤ wr.heap.size ∧ Hid (OwnL wr base B v3 (shapeL (L.take i))) ∧ Hid (Below base w wr))
  case atStart => exact ⟨0, base, rfl, Nat.zero_le _, rfl, Nat.le_refl _, by have := Hbase.out; omega, hid (OwnL.nil _ _ _), hid (Below.refl _ _)⟩
  case round =>
    obtain ⟨i, B, rfl, hi, rfl, hbB, hBs, hO, hbr⟩ := hrel
    have hi0 : (0 : Int) ≤ (i : Int) := by omega
    by_cases hlt : i < n
    · have hlt1 : i < L.length := by rw [Hn.out]; exact hlt
      have hil : (i : Int) < (n : Int) := by omega
      have hild : decide ((i : Int) < (n : Int)) = true := decide_eq_true hil
      obtain ⟨ad, va, rfl, hadb, p0, p1, p2, p3, p4, p5⟩ := tk_read (Hr.out.below hbr.out) (TkR.map (fun v l hv => hv.below hbr.out) L cs Ht.out) hlt1
      obtain ⟨k, hk⟩ : ∃ k, L[i].k = k := ⟨_, rfl⟩
      obtain ⟨tn, htn⟩ : ∃ x, bs L[i].n = x := ⟨_, rfl⟩
      obtain ⟨tx, htx⟩ : ∃ x, bs L[i].x = x := ⟨_, rfl⟩
      obtain ⟨c, hc⟩ : ∃ x, L[i].c = x := ⟨_, rfl⟩
      have Hsh := hid (shT_eq k tn tx c L[i] hk htn htx hc)
      have Hk := hid hk
      rw [hk] at p0
      rw [htn] at p1
      rw [htx] at p2
      rw [hc] at p4
      have P5 := hid p5
      obtain ⟨A5, c5, hA5, -⟩ := p5
      subst hA5
      have Hat := hid (Hb.out _ (List.getElem_mem hlt1))
      obtain ⟨no, hno⟩ : ∃ no, (shapeL (L.take i)).length = no := ⟨_, rfl⟩
      have hno2 : no ≤ 1099511627776 := by rw [← hno]; have := shapeL_len (L.take i); have h2 := List.length_take_le i L; have := Hn.out; omega
      have Hno := hid hno
      obtain ⟨A3, c3, hV3⟩ := OwnL.shape hO.out hno
      subst hV3
      clear hk htn htx hc hno
      by_cases h3 : k = 3
      · subst h3
        go_wp2
        go_roundg (n - (i + 1))
        case measure => omega
        case rel => exact ⟨i + 1, B, by go_num, by omega, rfl, hbB, by simp; omega, hid (by rw [shapeL_text L i hlt1 Hk.out]; exact hO.out.keep (alloc_below wr _)), hid (hbr.out.alloc (by omega) _)⟩
      · have h3b : (k == 3) = false := beq_eq_false_iff_ne.2 h3
        have h3c : (k != 3) = true := by rw [bne, h3b]; rfl
        have hsz : base ≤ wr.heap.size := by omega
        have HE := hid (Hea.out L[i].ats _ (wr.alloc (.cells #[.int .i64 k, .string tn, .string tx, .slice A5 L[i].ats.length c5, .bool c] 36)) Hat.out ((P5.out.below (alloc_below wr _ |>.mono (by omega))).more (by simp; omega)))
        obtain ⟨n5, hn5⟩ : ∃ x, L[i].ats.length = x := ⟨_, rfl⟩
        rw [hn5] at HE p3
        have Hn5 := hid hn5
        clear P5 hn5
        go_wp2_with (first
          | (go_at_call 44; refine HE.out.mono ?_; rintro e w1 ⟨V', rfl, hA', hb1⟩; have HT := hid ((Blk.new wr 36 #[.int .i64 k, .string tn, .string tx, .slice A5 n5 c5, .bool c]).below hb1 (by simp)); have T0 := (HT.out.cell 0).trans rfl; have T1 := (HT.out.cell 1).trans rfl; have T2 := (HT.out.cell 2).trans rfl; have T3w : w1.cell? ⟨wr.heap.size, 3, none⟩ = some (.slice A5 n5 c5) := (HT.out.cell 3).trans rfl; have T4 := (HT.out.cell 4).trans rfl; have ft := HT.out.frozen 3; obtain ⟨A', c', hV'⟩ := OwnA.shapeV hA' (n := n5) (by unfold shA; rw [List.length_map]; exact Hn5.out); subst hV'; have HA' := hid hA'; have Hb1 := hid hb1; clear hA' hb1; have HTs := HT.out.set_ 3 (.slice A' n5 c'); have S0 : (w1.setCell ⟨wr.heap.size, 3, none⟩ (.slice A' n5 c')).cell? ⟨wr.heap.size, 0, none⟩ = some (.int .i64 k) := (HTs.cell 0).trans rfl; have S1 : (w1.setCell ⟨wr.heap.size, 3, none⟩ (.slice A' n5 c')).cell? ⟨wr.heap.size, 1, none⟩ = some (.string tn) := (HTs.cell 1).trans rfl; have S2 : (w1.setCell ⟨wr.heap.size, 3, none⟩ (.slice A' n5 c')).cell? ⟨wr.heap.size, 2, none⟩ = some (.string tx) := (HTs.cell 2).trans rfl; have S3 : (w1.setCell ⟨wr.heap.size, 3, none⟩ (.slice A' n5 c')).cell? ⟨wr.heap.size, 3, none⟩ = some ((.slice A' n5 c')) := (HTs.cell 3).trans rfl; have S4 : (w1.setCell ⟨wr.heap.size, 3, none⟩ (.slice A' n5 c')).cell? ⟨wr.heap.size, 4, none⟩ = some (.bool c) := (HTs.cell 4).trans rfl; clear HTs; have HB2 := hid (below_set ((alloc_below wr (.cells #[.int .i64 k, .string tn, .string tx, .slice A5 n5 c5, .bool c] 36)).trans (Hb1.out.mono (by simp))) ⟨wr.heap.size, 3, none⟩ (.slice A' n5 c') (Nat.le_refl _)); have HO2 := hid ((hO.out.keep HB2.out).up hBs); have HA2 := hid ((OwnA.setT (j := 3) (v := .slice A' n5 c') (show OwnA w1 (wr.heap.size + 1) _ _ by simpa using HA'.out)).more_ (Nat.le_succ _)))
          | (at_builtin; refine wpl_tkL rfl _ _ rfl base wr.heap.size _ (shapeL (L.take i)) no k tn tx _ (shA L[i].ats) c _ HO2.out Hno.out rfl (by show Value.slice (some ⟨_, 0, none⟩) 1 1 = _; simp [World.setCell]) HA2.out hno2 hsz HB2.out.size ?_; intro v' w3 hO3 hb3))
        go_roundg (n - (i + 1))
        case measure => omega
        case rel => exact ⟨i + 1, w3.heap.size, by go_num, by omega, rfl, Nat.le_trans hsz (Nat.le_trans HB2.out.size hb3.size), Nat.le_refl _, hid (by rw [shapeL_tag L i hlt1 (by rw [Hk.out]; exact h3), ← Hsh.out]; exact hO3), hid (hbr.out.trans ((HB2.out.mono hsz).trans hb3))⟩
    · obtain rfl : i = n := by omega
      go_wp2
      go_ret
      rw [Hbase.out]
      refine ⟨_, rfl, ?_, hbr.out⟩
      have := hO.out.ownT
      rwa [List.take_of_length_le (by rw [Hn.out]; exact Nat.le_refl _)] at this
end Go.Proofs.Ytihgmgpcdodknaa
/- muslinref12.Shape. -/
namespace Go.Proofs.Ytihgmgpcdodknaa
open Go.RowKit

set_option maxRecDepth 100000 in
set_option maxHeartbeats 6400000 in
theorem refShape_any (L : List Tk) (V : Value) (w : World) (hb : ∀ t ∈ L, t.ats.length ≤ 1099511627776) (hll : L.length ≤ 1099511627776) (hV : TkA w w.heap.size V L) :
    Calls Try.prog 13 #[V] w fun e w' => ∃ V', e = .returned V' ∧ OwnT w' w.heap.size V' (shapeL L) ∧ Below w.heap.size w w' := by
  obtain ⟨A, ca, cs, rfl, hr, ht⟩ := hV
  obtain ⟨n, hn⟩ : ∃ n, L.length = n := ⟨_, rfl⟩
  have Hb := hid hb
  have Hr := hid hr
  have Ht := hid ht
  have Hn := hid hn
  rw [hn] at hll ⊢
  clear hb hr ht hn
  obtain ⟨base, hbase⟩ : ∃ b, w.heap.size = b := ⟨_, rfl⟩
  have Hbase := hid hbase
  rw [hbase] at Hr Ht
  obtain ⟨i0, hi', hz0, hz1, hz2⟩ := info_parts info_at
  go_enter Try.func13, Try.ntmps13
  go_wp2
  clear hbase
  go_loopg [3, 4] n (fun g v3 v4 wr => ∃ (i : Nat) (B : Nat), v4 = .int .i64 (i : Int) ∧ i ≤ n ∧ g = n - i ∧ base ≤ B ∧ B ≤ wr.heap.size ∧ Hid (OwnL wr base B v3 (shapeL (L.take i))) ∧ Hid (Below base w wr))
  case atStart => exact ⟨0, base, rfl, Nat.zero_le _, rfl, Nat.le_refl _, by have := Hbase.out; omega, hid (OwnL.nil _ _ _), hid (Below.refl _ _)⟩
  case round =>
    obtain ⟨i, B, rfl, hi, rfl, hbB, hBs, hO, hbr⟩ := hrel
    have hi0 : (0 : Int) ≤ (i : Int) := by omega
    by_cases hlt : i < n
    · have hlt1 : i < L.length := by rw [Hn.out]; exact hlt
      have hil : (i : Int) < (n : Int) := by omega
      have hild : decide ((i : Int) < (n : Int)) = true := decide_eq_true hil
      obtain ⟨ad, va, rfl, hadb, p0, p1, p2, p3, p4, p5⟩ := tk_read (Hr.out.below hbr.out) (TkR.map (fun v l hv => hv.below hbr.out) L cs Ht.out) hlt1
      obtain ⟨k, hk⟩ : ∃ k, L[i].k = k := ⟨_, rfl⟩
      obtain ⟨tn, htn⟩ : ∃ x, bs L[i].n = x := ⟨_, rfl⟩
      obtain ⟨tx, htx⟩ : ∃ x, bs L[i].x = x := ⟨_, rfl⟩
      obtain ⟨c, hc⟩ : ∃ x, L[i].c = x := ⟨_, rfl⟩
      have Hsh := hid (shT_eq k tn tx c L[i] hk htn htx hc)
      have Hk := hid hk
      rw [hk] at p0
      rw [htn] at p1
      rw [htx] at p2
      rw [hc] at p4
      have P5 := hid p5
      obtain ⟨A5, c5, hA5, -⟩ := p5
      subst hA5
      have hat := Hb.out _ (List.getElem_mem hlt1)
      obtain ⟨no, hno⟩ : ∃ no, (shapeL (L.take i)).length = no := ⟨_, rfl⟩
      have hno2 : no ≤ 1099511627776 := by rw [← hno]; have := shapeL_len (L.take i); have h2 := List.length_take_le i L; have := Hn.out; omega
      have Hno := hid hno
      obtain ⟨A3, c3, hV3⟩ := OwnL.shape hO.out hno
      subst hV3
      clear hk htn htx hc hno
      by_cases h3 : k = 3
      · subst h3
        go_wp2
        go_roundg (n - (i + 1))
        case measure => omega
        case rel => exact ⟨i + 1, B, by go_num, by omega, rfl, hbB, hBs, hid (by rw [shapeL_text L i hlt1 Hk.out]; exact hO.out), hbr⟩
      · have h3b : (k == 3) = false := beq_eq_false_iff_ne.2 h3
        obtain ⟨n5, hn5⟩ : ∃ x, L[i].ats.length = x := ⟨_, rfl⟩
        rw [hn5] at hat p3
        have Hn5 := hid hn5
        obtain ⟨T, hT⟩ : ∃ T, wr.heap.size = T := ⟨_, rfl⟩
        have HT := hid hT
        clear hn5
        have hadl : (ad.add (i * 5)).block < wr.heap.size := by
          have hbk : (ad.add (i * 5)).block = ad.block := by unfold Addr.add; split <;> rfl
          omega
        have z0 := (World.cell?_alloc_lt wr (.cells #[.int .i64 0, .string ⟨#[]⟩, .string ⟨#[]⟩, .slice none 0 0, .bool false] 36) (ad.add (i * 5)) hadl).trans p0
        have z1 := (World.cell?_alloc_lt wr (.cells #[.int .i64 0, .string ⟨#[]⟩, .string ⟨#[]⟩, .slice none 0 0, .bool false] 36) ⟨(ad.add (i * 5)).block, (ad.add (i * 5)).off + 1, none⟩ hadl).trans p1
        have z2 := (World.cell?_alloc_lt wr (.cells #[.int .i64 0, .string ⟨#[]⟩, .string ⟨#[]⟩, .slice none 0 0, .bool false] 36) ⟨(ad.add (i * 5)).block, (ad.add (i * 5)).off + 2, none⟩ hadl).trans p2
        have z4 := (World.cell?_alloc_lt wr (.cells #[.int .i64 0, .string ⟨#[]⟩, .string ⟨#[]⟩, .slice none 0 0, .bool false] 36) ⟨(ad.add (i * 5)).block, (ad.add (i * 5)).off + 4, none⟩ hadl).trans p4
        go_upto_region 6 with fail
        go_region
        go_wp2
        clear hT z0 z1 z2 z4 p0 p1 p2 p4
        rename World => w0
        go_loopg [6] n5 (fun g v6 wx => ∃ (j : Nat) (VA : Value), v6 = .int .i64 (j : Int) ∧ j ≤ n5 ∧ g = n5 - j ∧ Hid (Blk wx T 36 #[.int .i64 k, .string tn, .string tx, VA, .bool c]) ∧ Hid (OwnA wx T VA (shA (L[i].ats.take j))) ∧ Hid (Below T w0 wx))
        case atStart =>
          refine ⟨0, .slice none 0 0, rfl, Nat.zero_le _, rfl, hid ?_, hid (OwnA.nil _ _), hid ?_⟩
          · rw [← HT.out]; exact Blk.new w0.drew _ _
          · rw [← HT.out]; exact (Below.refl _ w0).drew.alloc (Nat.le_refl _) _
        case round =>
          obtain ⟨j, VA, rfl, hj, rfl, HB, HA, HW⟩ := hrel
          have hj0 : (0 : Int) ≤ (j : Int) := by omega
          have hbx : Below base w0 wr := HW.out.mono (by have := HT.out; omega)
          have x3 : wr.cell? ⟨(ad.add (i * 5)).block, (ad.add (i * 5)).off + 3, none⟩ = some (.slice A5 n5 c5) := (HW.out.cell (p := ⟨(ad.add (i * 5)).block, (ad.add (i * 5)).off + 3, none⟩) (by rw [← HT.out]; exact hadl)).trans p3
          have hTs : T ≤ wr.heap.size := by have := HW.out.size; rw [HT.out] at this; exact this
          have hTlt : T < wr.heap.size := HB.out.lt
          obtain ⟨An, cn, hVA⟩ := OwnA.shapeV HA.out (n := j) (by unfold shA; rw [List.length_map, List.length_take]; have := Hn5.out; omega)
          subst hVA
          by_cases hjl : j < n5
          · have hjl1 : j < L[i].ats.length := by rw [Hn5.out]; exact hjl
            have hji : (j : Int) < (n5 : Int) := by omega
            have hjd : decide ((j : Int) < (n5 : Int)) = true := decide_eq_true hji
            obtain ⟨aa, e5, haab, q1, q2⟩ := at_cells (by
              obtain ⟨A, c', e, hR⟩ := P5.out.below hbx
              injection e with e1 e2 e3
              rw [← e1] at hR
              exact hR) hjl1
            subst e5
            obtain ⟨nm, hnm⟩ : ∃ x, bs L[i].ats[j].1 = x := ⟨_, rfl⟩
            rw [hnm] at q1
            have Hnm := hid hnm
            have ft := HB.out.frozen 3
            have t3 : wr.cell? ⟨T, 3, none⟩ = some (.slice An j cn) := (HB.out.cell 3).trans rfl
            have hneT := own_blk_ne HA.out HB.out (by decide)
            have hown : wr.ownsRow T 39 2 (.slice An j cn) j (attCells (shA (L[i].ats.take j))) := by
              have h := HA.out
              unfold OwnA at h
              rw [show (shA (L[i].ats.take j)).length = j from by unfold shA; rw [List.length_map, List.length_take]; omega] at h
              exact h
            clear hnm q2
            go_upto_region 10 with fail
            refine wp_region_noPanic ?_
            go_region_law
              ((refine step_append_lies _ (by rfl) _ _ _ (by rfl) T 39 i0 _ 2 32 Try.underlying34 hi' hz0 hz1 hz2 rfl (by omega) (.slice An j cn) j (attCells (shA (L[i].ats.take j))) (by rfl) ((hown.alloc _).drew)
                  ⟨wr.heap.size, 0, none⟩ 1 1 [.string nm, .string ⟨#[]⟩] (by rfl) (by rfl) (World.news_of_block (cs := #[.string nm, .string ⟨#[]⟩]) (t := 39) (fr := (0, 0)) (heap_alloc_new wr _)) (by simp [Value.oneCell'])
                  (by omega) (by unfold maxLen; omega) (by omega) (by simp; omega) (wr.heap.size + 1) (by simp) ?_; intro gg cap w4 hown3 hgrow hat2 hlt3
                have e0 : w4.cell? ⟨T, 3, none⟩ = some (.slice An j cn) := ((hgrow.cell_far _ (by simp; omega) (Ne.symm hneT)).trans ((World.cell?_alloc_lt _ _ _ hTlt).trans t3))
                have e1 : w4.frozen? ⟨T, 3, none⟩ = false := (hgrow.frozen_far _ (by simp; omega) (Ne.symm hneT)).trans (((alloc_below _ _).frozen (p := ⟨T, 3, none⟩) hTlt).trans ft)))
            all_goals
              refine NoPanic.normal ?_
              have ho3 : OwnA w4 T (.slice (some ⟨gg, 0, none⟩) (j + 1) cap) (shA (L[i].ats.take (j + 1))) := by
                rw [shA_snoc _ j hjl1]
                unfold OwnA
                rw [attCells_snoc, List.length_append, Hnm.out, show (shA (L[i].ats.take j)).length = j from by unfold shA; rw [List.length_map, List.length_take]; omega]
                exact hown3
              have hB4 : Blk w4 T 36 #[.int .i64 k, .string tn, .string tx, .slice An j cn, .bool c] := Blk.grown (Blk.drew (Blk.alloc HB.out _)) hgrow (Ne.symm hneT)
              have HB5 := hid (hB4.set_ 3 (.slice (some ⟨gg, 0, none⟩) (j + 1) cap))
              have HA5 : Hid (OwnA (w4.setCell ⟨T, 3, none⟩ (.slice (some ⟨gg, 0, none⟩) (j + 1) cap)) T (.slice (some ⟨gg, 0, none⟩) (j + 1) cap) (shA (L[i].ats.take (j + 1)))) :=
                hid (OwnA.stay ho3 fun g cur _ hc => Below.heap_setCell w4 _ _ g (Blk.ne_ (t := 39) (cs := cur) hc hB4 (by decide)))
              have HW5 := hid (below_set (below_grown ((HW.out.alloc hTs (.cells #[.string nm, .string ⟨#[]⟩] 39)).drew) (by simp; omega) (fun g e => OwnA.lo_ HA.out g e) hgrow) ⟨T, 3, none⟩ (.slice (some ⟨gg, 0, none⟩) (j + 1) cap) (Nat.le_refl _))
              clear ho3 hB4 hown3 hgrow hat2 e0 e1
              go_wp2
              go_roundg (n5 - (j + 1))
              case measure => omega
              case rel => exact ⟨j + 1, _, by go_num, by omega, rfl, HB5, HA5, HW5⟩
          · obtain rfl : j = n5 := by omega
            have hji : ¬ (j : Int) < (j : Int) := by omega
            have y0 : wr.cell? ⟨T, 0, none⟩ = some (.int .i64 k) := (HB.out.cell 0).trans rfl
            have y1 : wr.cell? ⟨T, 1, none⟩ = some (.string tn) := (HB.out.cell 1).trans rfl
            have y2 : wr.cell? ⟨T, 2, none⟩ = some (.string tx) := (HB.out.cell 2).trans rfl
            have y3 : wr.cell? ⟨T, 3, none⟩ = some (.slice An j cn) := (HB.out.cell 3).trans rfl
            have y4 : wr.cell? ⟨T, 4, none⟩ = some (.bool c) := (HB.out.cell 4).trans rfl
            have HO2 := hid ((hO.out.keep (HW.out.mono (by rw [HT.out]; exact Nat.le_refl _))).up (show B ≤ T by have := HT.out; omega))
            have HA2 : Hid (OwnA wr T (.slice An j cn) (shA L[i].ats)) := hid (by have h := HA.out; rwa [List.take_of_length_le (by rw [Hn5.out]; exact Nat.le_refl _)] at h)
            have hbT : base ≤ T := by have := HT.out; omega
            go_wp2_with (at_builtin; refine wpl_tkL rfl _ _ rfl base T _ (shapeL (L.take i)) no k tn tx _ (shA L[i].ats) c _ HO2.out Hno.out rfl rfl HA2.out hno2 hbT hTs ?_; intro v' w3 hO3 hb3)
            go_roundg (n - (i + 1))
            case measure => omega
            case rel => exact ⟨i + 1, w3.heap.size, by go_num, by omega, rfl, Nat.le_trans hbT (Nat.le_trans hTs hb3.size), Nat.le_refl _, hid (by rw [shapeL_tag L i hlt1 (by rw [Hk.out]; exact h3), ← Hsh.out]; exact hO3), hid (hbr.out.trans ((HW.out.mono hbT).trans hb3))⟩
    · obtain rfl : i = n := by omega
      go_wp2
      go_ret
      rw [Hbase.out]
      refine ⟨_, rfl, ?_, hbr.out⟩
      have := hO.out.ownT
      rwa [List.take_of_length_le (by rw [Hn.out]; exact Nat.le_refl _)] at this
end Go.Proofs.Ytihgmgpcdodknaa
