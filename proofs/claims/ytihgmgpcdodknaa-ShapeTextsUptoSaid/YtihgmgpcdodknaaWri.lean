/- muslinref12.Write. -/
import Derived.Test.YtihgmgpcdodknaaChk
import Derived.Test.YtihgmgpcdodknaaTkB
import Derived.Test.YtihgmgpcdodknaaRdr
import Derived.Deep.CutBlock
set_option linter.unusedVariables false
namespace Go.Proofs.Ytihgmgpcdodknaa
open Go.RowKit

/-! ### Plain -/
theorem chkAll_drop (L : List Tk) (i : Nat) (h : i < L.length) : chkAll (L.drop i) = if chkI L[i] = 0 then chkAll (L.drop (i + 1)) else chkI L[i] := by
  rw [List.drop_eq_getElem_cons h]; rfl
theorem chkAll_end (L : List Tk) (i : Nat) (h : L.length ≤ i) : chkAll (L.drop i) = 0 := by rw [List.drop_of_length_le h]; rfl
theorem wrS_drop (L : List Tk) (i : Nat) (h : i < L.length) (p : Bool) (b : List UInt8) : wrS (L.drop i) p b = if wrBar L[i] p then ([], 9) else if 65536 < (b ++ wrT L[i]).length then ([], 5) else wrS (L.drop (i + 1)) (L[i].k == 3) (b ++ wrT L[i]) := by
  rw [List.drop_eq_getElem_cons h]; rfl
theorem wrS_end (L : List Tk) (i : Nat) (h : L.length ≤ i) (p : Bool) (b : List UInt8) : wrS (L.drop i) p b = (b, 0) := by rw [List.drop_of_length_le h]; rfl
/-- is the token before number i a text? -/
def prevB (L : List Tk) (i : Nat) : Bool := decide (0 < i) && ((L[i - 1]?).map (·.k) == some 3)
theorem prevB_zero (L : List Tk) : prevB L 0 = false := rfl
theorem prevB_succ (L : List Tk) (i : Nat) (h : i < L.length) : prevB L (i + 1) = (L[i].k == 3) := by
  unfold prevB
  rw [Nat.add_sub_cancel, List.getElem?_eq_getElem h]
  simp
theorem escL_len (l : List UInt8) : (escL l).length ≤ 20 * l.length := by
  have h := esc_len (bs l) (bs (escL l)) (by rw [bs_list, bs_list])
  rw [← len_data, bs_list, ← len_data, bs_list] at h
  exact h
theorem wrA_len : ∀ l : List Att, (wrA l).length ≤ 20 * attsLen l + 4 * l.length
  | [] => Nat.zero_le _
  | a :: r => by
    have ih := wrA_len r
    have he := escL_len a.2
    have h : wrA (a :: r) = (32 :: (a.1 ++ 61 :: 34 :: (escL a.2 ++ [34]))) ++ wrA r := rfl
    rw [h, List.length_append, attsLen_cons, List.length_cons]
    simp only [List.length_cons, List.length_append, List.length_nil]
    omega
theorem attsLen_take (l : List Att) (i : Nat) : attsLen (l.take i) ≤ attsLen l := by
  induction l generalizing i with
  | nil => simp
  | cons a r ih =>
    cases i with
    | zero => exact Nat.zero_le _
    | succ i =>
      rw [List.take_succ_cons, attsLen_cons, attsLen_cons]
      have := ih i; omega
theorem wrA_snoc (l : List Att) (i : Nat) (h : i < l.length) : wrA (l.take (i + 1)) = wrA (l.take i) ++ (32 :: (l[i].1 ++ 61 :: 34 :: (escL l[i].2 ++ [34]))) := by
  unfold wrA
  rw [List.take_succ_eq_append_getElem h, List.flatMap_append]
  simp

/-! ### In memory: the token's copy, the octets so far -/
structure Wb (base : Nat) (w0 W : World) (pt : Nat) (cs : Array Value) (v : Value) (bl : List UInt8) : Prop where
  T : Blk W pt 36 cs
  own : OwnB W base v bl
  bel : Below base w0 W
  hB : base ≤ W.heap.size
section
variable {base pt : Nat} {w0 W w' : World} {cs : Array Value} {v v' : Value} {bl bl' : List UInt8}
theorem Wb.push (h : Wb base w0 W pt cs v bl) (hO : OwnB w' base v' bl') (hg : W.grownBy w' v.ownBlock) : Wb base w0 w' pt cs v' bl' :=
  ⟨h.T.grown hg (Ne.symm (own_blk_ne h.own h.T (by decide))), hO, OwnB.below h.bel h.hB h.own hg, Nat.le_trans h.hB hg.size⟩
theorem Wb.keep (h : Wb base w0 W pt cs v bl) (hb : Below W.heap.size W w') : Wb base w0 w' pt cs v bl :=
  ⟨h.T.below hb h.T.lt, h.own.keep hb, h.bel.trans (hb.mono h.hB), Nat.le_trans h.hB hb.size⟩
theorem Wb.alloc (h : Wb base w0 W pt cs v bl) (o : Obj) : Wb base w0 (W.alloc o) pt cs v bl := h.keep (alloc_below W o)
theorem Wb.far (h : Wb base w0 W pt cs v bl) {p : Addr} {u : Value} (hp : p.block < base) (hc : w0.cell? p = some u) : W.cell? p = some u := (h.bel.cell hp).trans hc
theorem Wb.shp (h : Wb base w0 W pt cs v bl) {q : Nat} (hq : bl.length = q) : ∃ A c, v = .slice A q c := by
  subst hq; exact h.own.shape
theorem Wb.drew (h : Wb base w0 W pt cs v bl) : Wb base w0 W.drew pt cs v bl := ⟨h.T, h.own, h.bel.drew, h.hB⟩
end
/-- append(b, t...) -/
theorem wpl_wbs {ops : Array Oper} {rest : List Oper} {o : Oper} {a : Act} {Q : Exit → Act → World → Prop} (hgd : o.guard = none) (s x : Operand)
    (ho : o.op = .call { callee := .builtin .append, args := #[s, x], argTypes := #[50, 9] })
    {base pt : Nat} {w0 W : World} {cs : Array Value} {v : Value} {bl : List UInt8} (H : Wb base w0 W pt cs v bl) (hs : a.eval s = v) (t : ByteArray) (hx : a.eval x = .string t)
    (hlen : bl.length + t.size ≤ 1099511627776) (h : ∀ v' w', Wb base w0 w' pt cs v' (bl ++ t.data.toList) → wpList Try.prog ops Q rest (a.put o.dst v') w') : wpList Try.prog ops Q (o :: rest) a W :=
  wpl_pushs hgd s x ho base v bl hs H.own t hx hlen H.hB fun v' w' h2 h3 => h v' w' (H.push h2 h3)
/-- append(b, c) -/
theorem wpl_wb1 {ops : Array Oper} {rest : List Oper} {o : Oper} {a : Act} {Q : Exit → Act → World → Prop} (hgd : o.guard = none) (s x : Operand)
    (ho : o.op = .call { callee := .builtin .append, args := #[s, x], argTypes := #[50, 50] })
    {base pt : Nat} {w0 W : World} {cs : Array Value} {v : Value} {bl : List UInt8} (H : Wb base w0 W pt cs v bl) (hs : a.eval s = v) (n : Int) (hx : a.eval x = .slice (some ⟨W.heap.size, 0, none⟩) 1 1)
    (h0 : 0 ≤ n) (h1 : n ≤ 255) (hlen : bl.length + 1 ≤ 1099511627776) (h : ∀ v' w', Wb base w0 w' pt cs v' (bl ++ [bOf n]) → wpList Try.prog ops Q rest (a.put o.dst v') w') : wpList Try.prog ops Q (o :: rest) a (W.alloc (.cells #[.int .u8 n] 5)) :=
  wpl_push hgd s x ho base v bl hs (H.alloc _).own W.heap.size 1 [bOf n] 1 rfl hx (one_new W n _ h0 h1) hlen (H.alloc _).hB fun v' w' h2 h3 => h v' w' ((H.alloc _).push h2 h3)
/-- append(b, t...), in a region that draws its order -/
theorem step_wbs {ops : Array Oper} {o : Oper} {a : Act} {K : Act → World → Prop} {Q : Exit → Act → World → Prop} {E : Prop} (hgd : o.guard = none) (s x : Operand)
    (ho : o.op = .call { callee := .builtin .append, args := #[s, x], argTypes := #[50, 9] })
    {base pt : Nat} {w0 W : World} {cs : Array Value} {v : Value} {bl : List UInt8} (H : Wb base w0 W pt cs v bl) (hs : a.eval s = v) (t : ByteArray) (hx : a.eval x = .string t)
    (hlen : bl.length + t.size ≤ 1099511627776) (h : ∀ v' w', Wb base w0 w' pt cs v' (bl ++ t.data.toList) → K (a.put o.dst v') w') :
    if Region.wanted o (yielded ops a.tmps) = true then Oper.wp Try.prog o a W K Q else E := by
  have hw : Region.wanted o (yielded ops a.tmps) = true := by simp [Region.wanted, hgd]
  rw [if_pos hw]
  obtain ⟨i0, hi, hz0, hz1, hz2⟩ := info_parts info_u8
  obtain ⟨v', w', hrun, h2, h3, h4⟩ := Lib.run_append_own_string (P := Try.prog) W base 50 9 o.type 5 i0 Try.underlying50 Try.underlying9 hi hz0 hz1 hz2 v bl.length (Lib.byteCells bl) H.own t (by unfold maxLen; omega) (by omega) H.hB
  unfold Oper.wp execOp
  simp only [ho, resolve, invoke, builtin, Sem.run_bind, Sem.run_pure, Result.andThen_ok, List.map_toArray, List.map_cons, List.map_nil, hs, hx, hrun]
  refine h v' w' (H.push ?_ h3)
  unfold OwnB
  rw [List.length_append, Lib.byteCells_append, len_data]
  exact h2

def barB (t : Tk) (p : Bool) : Bool := wrBar t p
set_option maxRecDepth 100000 in
set_option maxHeartbeats 12800000 in
theorem refWrite_any (L : List Tk) (V : Value) (w : World) (hV : TkA w w.heap.size V L) (hll : L.length ≤ 1048576) (hb : ∀ t ∈ L, TkB 1048576 t) :
    Calls Try.prog 28 #[V] w (RStrInt w (wrL L).1 (wrL L).2) := by
  obtain ⟨A, ca, cs0, rfl, hr, ht⟩ := hV
  obtain ⟨n, hn⟩ : ∃ n, L.length = n := ⟨_, rfl⟩
  have Hb := hid hb
  have Hr := hid hr
  have Ht := hid ht
  have Hn := hid hn
  rw [hn] at hll ⊢
  clear hb hr ht hn
  obtain ⟨base, hbase⟩ : ∃ b, w.heap.size = b := ⟨_, rfl⟩
  have Hbase := hid hbase
  rw [hbase] at Hr Ht
  obtain ⟨rb, hrb⟩ : ∃ r, wrL L = r := ⟨_, rfl⟩
  obtain ⟨rs, rn⟩ := rb
  rw [hrb]
  have Hbad : Hid (∀ e : Int, chkAll L = e → e ≠ 0 → rs = [] ∧ rn = e) := hid (fun e h1 h2 => by
    have := hrb
    unfold wrL at this
    rw [h1, if_neg h2] at this
    injection this with a b
    exact ⟨a.symm, b.symm⟩)
  have Hgood : Hid (chkAll L = 0 → wrS L false [] = (rs, rn)) := hid (fun h1 => by
    have := hrb
    unfold wrL at this
    rwa [if_pos h1] at this)
  have HCk := hid (fun t va W ha hl hn hx hb => refCheck_any t va W ha hl hn hx hb)
  have HEl := hid (fun s W => refElem_any s W)
  have HEs := hid (fun s W hs => refEscape06_any s W hs)
  clear hrb hbase
  go_enter Try.func28, Try.ntmps28
  go_wp2_with fail
  go_loopg [4, 5] n (fun g v4 v5 wr => ∃ i : Nat, v4 = .int .i64 (i : Int) ∧ i ≤ n ∧ g = n - i ∧ Hid (chkAll L = chkAll (L.drop i)) ∧ Hid (Below base w wr))
  case atStart => exact ⟨0, rfl, Nat.zero_le _, rfl, hid rfl, hid (Below.refl _ _)⟩
  case round =>
    obtain ⟨i, rfl, hi, rfl, hck, hbr⟩ := hrel
    have hi0 : (0 : Int) ≤ (i : Int) := by omega
    by_cases hlt : i < n
    · have hlt1 : i < L.length := by rw [Hn.out]; exact hlt
      have hil : (i : Int) < (n : Int) := by omega
      have hild : decide ((i : Int) < (n : Int)) = true := decide_eq_true hil
      obtain ⟨ad, va, rfl, hadb, p0, p1, p2, p3, p4, p5⟩ := tk_read (Hr.out.below hbr.out) (TkR.map (fun v l hv => hv.below hbr.out) L cs0 Ht.out) hlt1
      have hsz : base ≤ wr.heap.size := by have := hbr.out.size; have := Hbase.out; omega
      have htb := Hb.out _ (List.getElem_mem hlt1)
      have HC := hid (HCk.out L[i] va wr (p5.more hsz) htb.1 htb.2.1 htb.2.2.1 (fun a ha => by have := attsLen_mem ha; have := htb.2.2.2; omega))
      obtain ⟨ce, hce⟩ : ∃ c, chkI L[i] = c := ⟨_, rfl⟩
      rw [hce] at HC
      have Hce := hid hce
      obtain ⟨k, hk⟩ : ∃ k, L[i].k = k := ⟨_, rfl⟩
      obtain ⟨tn, htn⟩ : ∃ x, bs L[i].n = x := ⟨_, rfl⟩
      obtain ⟨tx, htx⟩ : ∃ x, bs L[i].x = x := ⟨_, rfl⟩
      obtain ⟨c, hc⟩ : ∃ x, L[i].c = x := ⟨_, rfl⟩
      rw [hk] at p0 HC
      rw [htn] at p1 HC
      rw [htx] at p2 HC
      rw [hc] at p4 HC
      clear hk htn htx hc hce htb p5
      by_cases h0 : ce = 0
      · subst h0
        go_wp2_with (go_at_call 46; refine HC.out.mono ?_; rintro e w1 ⟨rfl, hb1⟩)
        go_roundg (n - (i + 1))
        case measure => omega
        case rel => exact ⟨i + 1, by go_num, by omega, rfl, hid (by rw [hck.out, chkAll_drop L i hlt1, if_pos Hce.out]), hid (hbr.out.trans (hb1.mono hsz))⟩
      · have h0b : (ce == 0) = false := beq_eq_false_iff_ne.2 h0
        have h0c : (ce != 0) = true := by rw [bne, h0b]; rfl
        have hR := hid (Hbad.out ce (by rw [hck.out, chkAll_drop L i hlt1, if_neg (by rw [Hce.out]; exact h0), Hce.out]) h0)
        go_wp2_with (go_at_call 46; refine HC.out.mono ?_; rintro e w1 ⟨rfl, hb1⟩)
        go_ret2
        refine ⟨_, _, rfl, hid ?_, hid hR.out.2.symm, by rw [Hbase.out]; exact hbr.out.trans (hb1.mono hsz)⟩
        rw [hR.out.1] <;> rfl
    · obtain rfl : i = n := by omega
      have hnn : ¬ (i : Int) < (i : Int) := by omega
      have hnd : decide ((i : Int) < (i : Int)) = false := decide_eq_false hnn
      have HG := hid (Hgood.out (by rw [hck.out, chkAll_end _ _ (by rw [Hn.out]; exact Nat.le_refl _)]))
      clear hck Hbad Hgood HCk
      have Hbr := hbr
      rename World => wq
      go_wp2_with fail
      go_loopg [6, 7] i (fun g v6 v7 wr => ∃ (j : Nat) (bl : List UInt8), v7 = .int .i64 (j : Int) ∧ j ≤ i ∧ g = i - j ∧ bl.length ≤ 65536 ∧ Hid (wrS (L.drop j) (prevB L j) bl = (rs, rn)) ∧ Hid (OwnB wr base v6 bl) ∧ Hid (Below base w wr))
      case atStart => exact ⟨0, [], rfl, Nat.zero_le _, rfl, by simp, hid HG.out, hid (OwnB.nil _ _), Hbr⟩
      case round =>
        obtain ⟨j, bl, rfl, hj, rfl, hbl, hS, hO, hbr⟩ := hrel
        have hj0 : (0 : Int) ≤ (j : Int) := by omega
        have hsz : base ≤ wr.heap.size := by have := hbr.out.size; have := Hbase.out; omega
        by_cases hlt : j < i
        · have hlt1 : j < L.length := by rw [Hn.out]; exact hlt
          have hjl : (j : Int) < (i : Int) := by omega
          have hjd : decide ((j : Int) < (i : Int)) = true := decide_eq_true hjl
          obtain ⟨ad, va, rfl, hadb, p0w, p1w, p2w, p3w, p4w, p5⟩ := tk_read Hr.out Ht.out hlt1
          have hcb : (ad.add (j * 5)).block < base := by rw [block_of_add]; exact hadb
          have p0 := (hbr.out.cell (p := ad.add (j * 5)) hcb).trans p0w
          have p1 := (hbr.out.cell (p := ⟨(ad.add (j * 5)).block, (ad.add (j * 5)).off + 1, none⟩) hcb).trans p1w
          have p2 := (hbr.out.cell (p := ⟨(ad.add (j * 5)).block, (ad.add (j * 5)).off + 2, none⟩) hcb).trans p2w
          have p3 := (hbr.out.cell (p := ⟨(ad.add (j * 5)).block, (ad.add (j * 5)).off + 3, none⟩) hcb).trans p3w
          have p4 := (hbr.out.cell (p := ⟨(ad.add (j * 5)).block, (ad.add (j * 5)).off + 4, none⟩) hcb).trans p4w
          clear p0w p1w p2w p3w p4w hcb
          have htb := Hb.out _ (List.getElem_mem hlt1)
          obtain ⟨A5, c5, rfl, hr5⟩ := p5
          have Hr5 := hid hr5
          obtain ⟨k, hk⟩ : ∃ k, L[j].k = k := ⟨_, rfl⟩
          obtain ⟨tn, htn⟩ : ∃ x, bs L[j].n = x := ⟨_, rfl⟩
          obtain ⟨tx, htx⟩ : ∃ x, bs L[j].x = x := ⟨_, rfl⟩
          obtain ⟨c, hc⟩ : ∃ x, L[j].c = x := ⟨_, rfl⟩
          obtain ⟨n5, hn5⟩ : ∃ x, L[j].ats.length = x := ⟨_, rfl⟩
          have hln : tn.data.toList = L[j].n := by rw [← htn, bs_list]
          have hlx : tx.data.toList = L[j].x := by rw [← htx, bs_list]
          have hzn : tn.size ≤ 1048576 := by rw [← len_data, hln]; exact htb.2.1
          have hzx : tx.size ≤ 1048576 := by rw [← len_data, hlx]; exact htb.2.2.1
          rw [hk] at p0
          rw [htn] at p1
          rw [htx] at p2
          rw [hn5] at p3
          rw [hc] at p4
          have Hk := hid hk
          have Hln := hid hln
          have Hlx := hid hlx
          have Hc := hid hc
          have Hn5 := hid hn5
          have htl : attsLen L[j].ats ≤ 1048576 := htb.2.2.2
          have Htl := hid htl
          have hn5b : n5 ≤ 1048576 := by rw [← hn5]; exact htb.1
          have hprev : j = 0 ∧ prevB L j = false ∨ ∃ m k0, j = m + 1 ∧ prevB L j = (k0 == 3) ∧ wr.cell? (ad.add (m * 5)) = some (.int .i64 k0) := by
            rcases Nat.eq_zero_or_pos j with h | h
            · exact .inl ⟨h, by rw [h]; rfl⟩
            · obtain ⟨m, rfl⟩ : ∃ m, j = m + 1 := ⟨j - 1, by omega⟩
              have hm1 : m < L.length := by omega
              obtain ⟨ad', va', e', -, q0, -⟩ := tk_read (Hr.out.below hbr.out) (TkR.map (fun v l hv => hv.below hbr.out) L cs0 Ht.out) hm1
              injection e' with e'
              subst e'
              exact .inr ⟨m, L[m].k, rfl, prevB_succ L m hm1, q0⟩
          obtain ⟨pb, hpb⟩ : ∃ b, prevB L j = b := ⟨_, rfl⟩
          obtain ⟨ek, hek⟩ : ∃ x, elemK tn.data.toList = x := ⟨_, rfl⟩
          obtain ⟨bar, hbar⟩ : ∃ b, wrBar L[j] (prevB L j) = b := ⟨_, rfl⟩
          have hbar2 : bar = ((k == 3 && pb) || (k == 1 && decide (1 ≤ ek) && decide (ek ≤ 3))) := by
            rw [← hbar, hpb, ← hek, hln]
            unfold wrBar
            rw [hk]
          have hSd := hS.out
          rw [wrS_drop L j hlt1, hbar] at hSd
          have HSd := hid hSd
          rw [hpb] at hprev
          have Hbar := hid hbar2
          have Hprev := hid hprev
          have HE := hid (HEl.out tn)
          rw [hek] at HE
          have hwl : (wrT L[j]).length ≤ 100000000 := by
            have h1 := wrA_len L[j].ats
            have h2 := escL_len L[j].x
            have h3 := htb.1
            have h4 := htb.2.1
            have h5 := htb.2.2.1
            unfold wrT
            split
            · simp only [List.length_cons, List.length_append]
              split <;> simp <;> omega
            · split
              · simp; omega
              · split
                · omega
                · simp; omega
          clear hk htn htx hc hn5 htb htl hln hlx hpb hek hbar hSd hbar2 hprev hS hr5
          obtain ⟨A3, c3, hV3⟩ := hO.out.shape
          subst hV3
          have hHT : Blk (wr.alloc (.cells #[.int .i64 k, .string tn, .string tx, .slice A5 n5 c5, .bool c] 36)) wr.heap.size 36 #[.int .i64 k, .string tn, .string tx, .slice A5 n5 c5, .bool c] := Blk.new wr _ _
          have hHW : Wb base w (wr.alloc (.cells #[.int .i64 k, .string tn, .string tx, .slice A5 n5 c5, .bool c] 36)) wr.heap.size #[.int .i64 k, .string tn, .string tx, .slice A5 n5 c5, .bool c] (.slice A3 bl.length c3) bl := ⟨hHT, hO.out.alloc _, hbr.out.alloc hsz _, by simp; omega⟩
          have HHW := hid hHW
          clear hHT hHW
          go_upto_region 12 with fail
          obtain ⟨W, hW⟩ : ∃ W, wr.alloc (.cells #[.int .i64 k, .string tn, .string tx, .slice A5 n5 c5, .bool c] 36) = W := ⟨_, rfl⟩
          have hWb : Below wr.heap.size wr W := by rw [← hW]; exact alloc_below wr _
          have HWb := hid hWb
          rw [hW] at HHW ⊢
          obtain ⟨pt, hpt⟩ : ∃ pt, wr.heap.size = pt := ⟨_, rfl⟩
          rw [hpt] at HHW ⊢
          clear hW hpt hWb
          have T1 : W.cell? ⟨pt, 1, none⟩ = some (.string tn) := (HHW.out.T.cell 1).trans rfl
          go_upto_region 13 with (go_at_call 47; refine (HE.out _).mono ?_; rintro e w2 ⟨rfl, hb2⟩)
          have HW2 := hid (HHW.out.keep hb2)
          have Hb2 := hid ((HWb.out.mono hsz).trans (hb2.mono HHW.out.hB))
          clear T1 hb2 HE HHW HWb p0 p1 p2 p3 p4
          go_cut [66] from 25 to 133 (fun v66 wx => v66 = .bool bar ∧ wx = w2)
          case first =>
            have T0 : w2.cell? ⟨pt, 0, none⟩ = some (.int .i64 k) := (HW2.out.T.cell 0).trans rfl
            by_cases h3 : k = 3
            · subst h3
              rcases Hprev.out with ⟨h0, hp⟩ | ⟨m, k0, hm, hp, hc0⟩
              · have z1 : ¬ (0 : Int) < (j : Int) := by omega
                have z2 : decide ((0 : Int) < (j : Int)) = false := decide_eq_false z1
                have Hr6 : Hid (bar = false) := hid (by rw [Hbar.out, hp]; rfl)
                clear h0
                go_wp2_with fail
                go_meet
                case rel => exact ⟨congrArg Value.bool (by rw [Hr6.out] <;> rfl), rfl⟩
              · have z1 : (0 : Int) < (j : Int) := by omega
                have z2 : decide ((0 : Int) < (j : Int)) = true := decide_eq_true z1
                have zw : IntKind.i64.wrap ((j : Int) - 1) = (m : Int) := by
                  have e : (j : Int) - 1 = (m : Int) := by omega
                  rw [e]
                  exact IntWalk.i64_in _ (by omega)
                have zm0 : (0 : Int) ≤ (m : Int) := by omega
                have zm1 : (m : Int) < (i : Int) := by omega
                have hc2 := (Hb2.out.cell (p := ad.add (m * 5)) (by rw [block_of_add]; exact hadb)).trans hc0
                clear hm hc0
                by_cases h4 : k0 = 3
                · subst h4
                  have Hr6 : Hid (bar = true) := hid (by rw [Hbar.out, hp]; rfl)
                  go_wp2_with fail
                  go_meet
                  case rel => exact ⟨congrArg Value.bool (by rw [Hr6.out] <;> rfl), rfl⟩
                · have h4b : (k0 == 3) = false := beq_eq_false_iff_ne.2 h4
                  have Hr6 : Hid (bar = false) := hid (by rw [Hbar.out, hp, h4b]; rfl)
                  go_wp2_with fail
                  go_meet
                  case rel => exact ⟨congrArg Value.bool (by rw [Hr6.out] <;> rfl), rfl⟩
            · have h3b : (k == 3) = false := beq_eq_false_iff_ne.2 h3
              by_cases h1 : k = 1
              · subst h1
                by_cases he1 : 0 < ek
                · have y1 : decide (0 < ek) = true := decide_eq_true he1
                  by_cases he2 : ek < 4
                  · have y2 : decide (ek < 4) = true := decide_eq_true he2
                    have Hr6 : Hid (bar = true) := hid (by rw [Hbar.out, decide_eq_true (show 1 ≤ ek by omega), decide_eq_true (show ek ≤ 3 by omega)]; rfl)
                    go_wp2_with fail
                    go_meet
                    case rel => exact ⟨congrArg Value.bool (by rw [Hr6.out] <;> rfl), rfl⟩
                  · have y2 : decide (ek < 4) = false := decide_eq_false he2
                    have Hr6 : Hid (bar = false) := hid (by rw [Hbar.out, decide_eq_false (show ¬ ek ≤ 3 by omega)]; simp)
                    go_wp2_with fail
                    go_meet
                    case rel => exact ⟨congrArg Value.bool (by rw [Hr6.out] <;> rfl), rfl⟩
                · have y1 : decide (0 < ek) = false := decide_eq_false he1
                  have Hr6 : Hid (bar = false) := hid (by rw [Hbar.out, decide_eq_false (show ¬ 1 ≤ ek by omega)]; simp)
                  go_wp2_with fail
                  go_meet
                  case rel => exact ⟨congrArg Value.bool (by rw [Hr6.out] <;> rfl), rfl⟩
              · have h1b : (k == 1) = false := beq_eq_false_iff_ne.2 h1
                have Hr6 : Hid (bar = false) := hid (by rw [Hbar.out, h3b, h1b]; rfl)
                go_wp2_with fail
                go_meet
                case rel => exact ⟨congrArg Value.bool (by rw [Hr6.out] <;> rfl), rfl⟩
          case rest =>
            obtain ⟨rfl, rfl⟩ := hcut
            rename World => w2
            have T0 : w2.cell? ⟨pt, 0, none⟩ = some (.int .i64 k) := (HW2.out.T.cell 0).trans rfl
            have T1 : w2.cell? ⟨pt, 1, none⟩ = some (.string tn) := (HW2.out.T.cell 1).trans rfl
            have T2 : w2.cell? ⟨pt, 2, none⟩ = some (.string tx) := (HW2.out.T.cell 2).trans rfl
            cases bar with
            | true =>
              have HS : Hid (rs = [] ∧ rn = 9) := hid (by
                have := HSd.out
                rw [if_pos rfl] at this
                injection this with a b
                exact ⟨a.symm, b.symm⟩)
              go_wp2_with fail
              go_ret2
              refine ⟨_, _, rfl, hid ?_, hid HS.out.2.symm, by rw [Hbase.out]; exact HW2.out.bel⟩
              rw [HS.out.1] <;> rfl
            | false =>
              have HS2 : Hid ((65536 < (bl ++ wrT L[j]).length → rs = [] ∧ rn = 5) ∧ (¬ 65536 < (bl ++ wrT L[j]).length → wrS (L.drop (j + 1)) (prevB L (j + 1)) (bl ++ wrT L[j]) = (rs, rn))) := hid (by
                have := HSd.out
                rw [if_neg (by simp)] at this
                refine ⟨fun h => ?_, fun h => ?_⟩
                · rw [if_pos h] at this
                  injection this with a b
                  exact ⟨a.symm, b.symm⟩
                · rw [if_neg h] at this
                  rw [prevB_succ L j hlt1]
                  exact this)
              clear HSd Hbar Hprev
              by_cases h1 : k = 1
              · subst h1
                have c1 : ¬ 9223372036854775807 < 1 + tn.size := by omega
                have T3 : w2.cell? ⟨pt, 3, none⟩ = some (.slice A5 n5 c5) := (HW2.out.T.cell 3).trans rfl
                have T4 : w2.cell? ⟨pt, 4, none⟩ = some (.bool c) := (HW2.out.T.cell 4).trans rfl
                have HwT0 : Hid (wrT L[j] = 60 :: (tn.data.toList ++ (wrA L[j].ats ++ ((if c then [47] else []) ++ [62])))) := hid (by
                  unfold wrT
                  rw [if_pos Hk.out, Hln.out, Hc.out])
                have hwa : (wrA L[j].ats).length ≤ 30000000 := by have := wrA_len L[j].ats; have := Htl.out; have := Hn5.out; omega
                clear hwl
                have hnl := hid (len_data tn)
                go_upto_region 19 with (at_builtin; refine wpl_wbs rfl _ _ rfl HW2.out rfl _ rfl ?len ?_; (case len => rw [ByteArray.size_append]; show bl.length + (1 + tn.size) ≤ _; omega); intro V1 w4 hW4)
                have HW4 : Hid (Wb base w w4 pt #[.int .i64 1, .string tn, .string tx, .slice A5 n5 c5, .bool c] V1 (bl ++ 60 :: tn.data.toList)) := hid (by rw [data_append] at hW4; exact hW4)
                clear hW4 T0 T1 T2 T3 T4
                go_wp2_with fail
                go_loopg [6, 10] n5 (fun g v6 v10 wx => ∃ (a : Nat), v10 = .int .i64 (a : Int) ∧ a ≤ n5 ∧ g = n5 - a ∧ Hid (Wb base w wx pt #[.int .i64 1, .string tn, .string tx, .slice A5 n5 c5, .bool c] v6 (bl ++ 60 :: (tn.data.toList ++ wrA (L[j].ats.take a)))))
                case atStart => exact ⟨0, rfl, Nat.zero_le _, rfl, hid (by simpa [wrA] using HW4.out)⟩
                case round =>
                  obtain ⟨a, rfl, ha, rfl, HW5⟩ := hrel
                  rename World => w5
                  have ha0 : (0 : Int) ≤ (a : Int) := by omega
                  obtain ⟨l5, hl5⟩ : ∃ l, bl ++ 60 :: (tn.data.toList ++ wrA (L[j].ats.take a)) = l := ⟨_, rfl⟩
                  have hlen5 : l5.length ≤ 40000000 := by
                    have h1 := wrA_len (L[j].ats.take a)
                    have h2 := attsLen_take L[j].ats a
                    have h3 := Htl.out
                    have h4 := List.length_take_le a L[j].ats
                    have h5 := Hn5.out
                    have h6 := hnl.out
                    rw [← hl5]
                    simp only [List.length_append, List.length_cons]
                    omega
                  have Hl5 := hid hl5
                  rw [hl5] at HW5
                  obtain ⟨A7, c7, hV7⟩ := HW5.out.own.shape
                  subst hV7
                  clear hl5
                  have t3 : w5.cell? ⟨pt, 3, none⟩ = some (.slice A5 n5 c5) := (HW5.out.T.cell 3).trans rfl
                  by_cases hal : a < n5
                  · have hal1 : a < L[j].ats.length := by rw [Hn5.out]; exact hal
                    have hai : (a : Int) < (n5 : Int) := by omega
                    have had : decide ((a : Int) < (n5 : Int)) = true := decide_eq_true hai
                    obtain ⟨aa, rfl, haab, q1, q2⟩ := at_cells (Hr5.out) hal1
                    obtain ⟨s1, hs1⟩ : ∃ x, bs L[j].ats[a].1 = x := ⟨_, rfl⟩
                    obtain ⟨s2, hs2⟩ : ∃ x, bs L[j].ats[a].2 = x := ⟨_, rfl⟩
                    rw [hs1] at q1
                    rw [hs2] at q2
                    have e1 : s1.data.toList = L[j].ats[a].1 := by rw [← hs1, bs_list]
                    have e2 : s2.data.toList = L[j].ats[a].2 := by rw [← hs2, bs_list]
                    have hm := attsLen_mem (List.getElem_mem hal1)
                    have hz1 : s1.size ≤ 1048576 := by rw [← len_data, e1]; have := Htl.out; omega
                    have hz2 : s2.size ≤ 1048576 := by rw [← len_data, e2]; have := Htl.out; omega
                    have He1 := hid e1
                    have He2 := hid e2
                    have HEt := hid (fun W => HEs.out s2 W (by omega))
                    have d1 : ¬ 9223372036854775807 < 1 + s1.size := by omega
                    have d2 : ¬ 9223372036854775807 < 1 + s1.size + 2 := by omega
                    have Q1 := hid (HW5.out.drew.far (p := aa.add (a * 2)) (by rw [block_of_add]; exact haab) q1)
                    have Q2 := hid (HW5.out.drew.far (p := ⟨(aa.add (a * 2)).block, (aa.add (a * 2)).off + 1, none⟩) (by show (aa.add (a * 2)).block < base; rw [block_of_add]; exact haab) q2)
                    have QQ1 := hid q1
                    have QQ2 := hid q2
                    clear q1 q2
                    clear e1 e2 hs1 hs2 hm
                    go_wp2_with fail
                    go_region_held3 (fun w' => w'.cell? ⟨pt, 3, none⟩ = some (.slice (some aa) n5 c5) ∧ w'.cell? (aa.add (a * 2)) = some (.string s1) ∧ w'.cell? ⟨(aa.add (a * 2)).block, (aa.add (a * 2)).off + 1, none⟩ = some (.string s2))
                      (first
                        | exact ⟨(HW5.out.T.cell 3).trans rfl, Q1.out, Q2.out⟩
                        | exact ⟨(HW6.out.T.cell 3).trans rfl, HW6.out.far (by rw [block_of_add]; exact haab) QQ1.out, HW6.out.far (p := ⟨(aa.add (a * 2)).block, (aa.add (a * 2)).off + 1, none⟩) (by show (aa.add (a * 2)).block < base; rw [block_of_add]; exact haab) QQ2.out⟩
                        | exact ⟨(HW7.out.T.cell 3).trans rfl, HW7.out.far (by rw [block_of_add]; exact haab) QQ1.out, HW7.out.far (p := ⟨(aa.add (a * 2)).block, (aa.add (a * 2)).off + 1, none⟩) (by show (aa.add (a * 2)).block < base; rw [block_of_add]; exact haab) QQ2.out⟩)
                      (first
                        | (go_at_call 17; refine (HEt.out _).mono ?_; rintro e w6 ⟨t, rfl, ht, hb6⟩; have HW6 := hid (HW5.out.drew.keep hb6); have htz : t.size ≤ 30000000 := (by have := escL_len s2.data.toList; rw [len_data] at this; rw [← len_data, ht.out]; omega); have d3 : ¬ 9223372036854775807 < 1 + s1.size + 2 + t.size := (by omega); have d4 : ¬ 9223372036854775807 < 1 + s1.size + 2 + t.size + 1 := (by omega))
                        | (refine step_wbs rfl _ _ rfl HW6.out rfl _ rfl ?len ?_; (case len => simp only [ByteArray.size_append]; show l5.length + (1 + s1.size + 2 + t.size + 1) ≤ _; omega); intro v' w7 hW7; have HW7 := hid hW7; clear hW7))
                    refine ?_
                    go_wp2_with fail
                    go_roundg (n5 - (a + 1))
                    case measure => omega
                    case rel => exact ⟨a + 1, by go_num, by omega, rfl, hid (by
                      have h := HW7.out
                      rw [wrA_snoc L[j].ats a hal1, ← He1.out, ← He2.out, ← ht.out]
                      rw [← Hl5.out] at h
                      simpa [data_append] using h)⟩
                  · obtain rfl : a = n5 := by omega
                    have haa : ¬ (a : Int) < (a : Int) := by omega
                    have haad : decide ((a : Int) < (a : Int)) = false := decide_eq_false haa
                    have Hl6 : Hid (bl ++ 60 :: (tn.data.toList ++ wrA L[j].ats) = l5) := hid (by rw [← Hl5.out, List.take_of_length_le (by rw [Hn5.out]; exact Nat.le_refl _)])
                    have t4 : w5.cell? ⟨pt, 4, none⟩ = some (.bool c) := (HW5.out.T.cell 4).trans rfl
                    cases c with
                  | true =>
                    have HwT : Hid (l5 ++ ([47] ++ [62]) = bl ++ wrT L[j]) := hid (by rw [← Hl6.out, HwT0.out]; simp)
                    obtain ⟨q, hq⟩ : ∃ q, (bl ++ wrT L[j]).length = q := ⟨_, rfl⟩
                    have Hq := hid hq
                    have hqe : (bl ++ wrT L[j]).length = q := hq
                    clear hq
                    by_cases h6 : 65536 < q
                    · have h6i : (65536 : Int) < (q : Int) := by omega
                      have h6d : decide ((65536 : Int) < (q : Int)) = true := decide_eq_true h6i
                      have HS := hid (HS2.out.1 (by rw [hqe]; exact h6))
                      clear hqe
                      go_wp2_with (first | (at_builtin; refine wpl_wb1 rfl _ _ rfl HW9.out rfl _ rfl (by omega) (by omega) ?len ?_; (case len => (try simp only [List.length_append, List.length_singleton]); omega); intro V1 w8 hW8; obtain ⟨A6, c6, hV6⟩ := hW8.shp (q := q) (by rw [← Hq.out, ← HwT.out]; simp [bOf]); subst hV6; have HW8 := hid hW8; clear hW8) | (at_builtin; refine wpl_wb1 rfl _ _ rfl HW5.out rfl _ rfl (by omega) (by omega) ?len ?_; (case len => omega); intro V1 w9 hW9; have HW9 := hid hW9; clear hW9))
                      go_ret2
                      refine ⟨_, _, rfl, hid ?_, hid HS.out.2.symm, by rw [Hbase.out]; exact HW8.out.bel⟩
                      rw [HS.out.1] <;> rfl
                    · have h6i : ¬ (65536 : Int) < (q : Int) := by omega
                      have h6d : decide ((65536 : Int) < (q : Int)) = false := decide_eq_false h6i
                      have HS := hid (HS2.out.2 (by rw [hqe]; exact h6))
                      have hql : (bl ++ wrT L[j]).length ≤ 65536 := by omega
                      clear hqe
                      go_wp2_with (first | (at_builtin; refine wpl_wb1 rfl _ _ rfl HW9.out rfl _ rfl (by omega) (by omega) ?len ?_; (case len => (try simp only [List.length_append, List.length_singleton]); omega); intro V1 w8 hW8; obtain ⟨A6, c6, hV6⟩ := hW8.shp (q := q) (by rw [← Hq.out, ← HwT.out]; simp [bOf]); subst hV6; have HW8 := hid hW8; clear hW8) | (at_builtin; refine wpl_wb1 rfl _ _ rfl HW5.out rfl _ rfl (by omega) (by omega) ?len ?_; (case len => omega); intro V1 w9 hW9; have HW9 := hid hW9; clear hW9))
                      go_roundg (i - (j + 1))
                      case measure => omega
                      case rel => exact ⟨j + 1, bl ++ wrT L[j], by go_num, by omega, rfl, hql, hid HS.out, hid (by rw [← HwT.out]; simpa [bOf] using HW8.out.own), hid HW8.out.bel⟩
                  | false =>
                    have HwT : Hid (l5 ++ ([62]) = bl ++ wrT L[j]) := hid (by rw [← Hl6.out, HwT0.out]; simp)
                    obtain ⟨q, hq⟩ : ∃ q, (bl ++ wrT L[j]).length = q := ⟨_, rfl⟩
                    have Hq := hid hq
                    have hqe : (bl ++ wrT L[j]).length = q := hq
                    clear hq
                    by_cases h6 : 65536 < q
                    · have h6i : (65536 : Int) < (q : Int) := by omega
                      have h6d : decide ((65536 : Int) < (q : Int)) = true := decide_eq_true h6i
                      have HS := hid (HS2.out.1 (by rw [hqe]; exact h6))
                      clear hqe
                      go_wp2_with (at_builtin; refine wpl_wb1 rfl _ _ rfl HW5.out rfl _ rfl (by omega) (by omega) ?len ?_; (case len => (try simp only [List.length_append, List.length_singleton]); omega); intro V1 w8 hW8; obtain ⟨A6, c6, hV6⟩ := hW8.shp (q := q) (by rw [← Hq.out, ← HwT.out]; simp [bOf]); subst hV6; have HW8 := hid hW8; clear hW8)
                      go_ret2
                      refine ⟨_, _, rfl, hid ?_, hid HS.out.2.symm, by rw [Hbase.out]; exact HW8.out.bel⟩
                      rw [HS.out.1] <;> rfl
                    · have h6i : ¬ (65536 : Int) < (q : Int) := by omega
                      have h6d : decide ((65536 : Int) < (q : Int)) = false := decide_eq_false h6i
                      have HS := hid (HS2.out.2 (by rw [hqe]; exact h6))
                      have hql : (bl ++ wrT L[j]).length ≤ 65536 := by omega
                      clear hqe
                      go_wp2_with (at_builtin; refine wpl_wb1 rfl _ _ rfl HW5.out rfl _ rfl (by omega) (by omega) ?len ?_; (case len => (try simp only [List.length_append, List.length_singleton]); omega); intro V1 w8 hW8; obtain ⟨A6, c6, hV6⟩ := hW8.shp (q := q) (by rw [← Hq.out, ← HwT.out]; simp [bOf]); subst hV6; have HW8 := hid hW8; clear hW8)
                      go_roundg (i - (j + 1))
                      case measure => omega
                      case rel => exact ⟨j + 1, bl ++ wrT L[j], by go_num, by omega, rfl, hql, hid HS.out, hid (by rw [← HwT.out]; simpa [bOf] using HW8.out.own), hid HW8.out.bel⟩
              · have h1b : (k == 1) = false := beq_eq_false_iff_ne.2 h1
                by_cases h2 : k = 2
                · subst h2
                  have c1 : ¬ 9223372036854775807 < 2 + tn.size := by omega
                  have c2 : ¬ 9223372036854775807 < 2 + tn.size + 1 := by omega
                  have HwT : Hid (wrT L[j] = (⟨#[60, 47]⟩ ++ tn ++ ⟨#[62]⟩ : ByteArray).data.toList) := hid (by
                    unfold wrT
                    rw [if_neg (by rw [Hk.out]; decide), if_pos Hk.out, data_append, data_append, Hln.out]; simp)
                  obtain ⟨q, hq⟩ : ∃ q, (bl ++ wrT L[j]).length = q := ⟨_, rfl⟩
                  have Hq := hid hq
                  have hqe : (bl ++ wrT L[j]).length = q := hq
                  clear hq
                  by_cases h6 : 65536 < q
                  · have h6i : (65536 : Int) < (q : Int) := by omega
                    have h6d : decide ((65536 : Int) < (q : Int)) = true := decide_eq_true h6i
                    have HS := hid (HS2.out.1 (by rw [hqe]; exact h6))
                    clear hqe
                    go_wp2_with (at_builtin; refine wpl_wbs rfl _ _ rfl HW2.out rfl _ rfl ?len ?_; (case len => have := hwl; rw [HwT.out, len_data] at this; omega); intro V1 w4 hW4; obtain ⟨A6, c6, hV6⟩ := hW4.shp (q := q) (by rw [← Hq.out, HwT.out]); subst hV6; have HW5 := hid hW4; clear hW4)
                    go_ret2
                    refine ⟨_, _, rfl, hid ?_, hid HS.out.2.symm, by rw [Hbase.out]; exact HW5.out.bel⟩
                    rw [HS.out.1] <;> rfl
                  · have h6i : ¬ (65536 : Int) < (q : Int) := by omega
                    have h6d : decide ((65536 : Int) < (q : Int)) = false := decide_eq_false h6i
                    have HS := hid (HS2.out.2 (by rw [hqe]; exact h6))
                    have hql : (bl ++ wrT L[j]).length ≤ 65536 := by omega
                    clear hqe
                    go_wp2_with (at_builtin; refine wpl_wbs rfl _ _ rfl HW2.out rfl _ rfl ?len ?_; (case len => have := hwl; rw [HwT.out, len_data] at this; omega); intro V1 w4 hW4; obtain ⟨A6, c6, hV6⟩ := hW4.shp (q := q) (by rw [← Hq.out, HwT.out]); subst hV6; have HW5 := hid hW4; clear hW4)
                    go_roundg (i - (j + 1))
                    case measure => omega
                    case rel => exact ⟨j + 1, bl ++ wrT L[j], by go_num, by omega, rfl, hql, hid HS.out, hid (by rw [HwT.out]; exact HW5.out.own), hid HW5.out.bel⟩
                · have h2b : (k == 2) = false := beq_eq_false_iff_ne.2 h2
                  by_cases h3 : k = 3
                  · subst h3
                    have HEt := hid (fun W => HEs.out tx W (by omega))
                    obtain ⟨q, hq⟩ : ∃ q, (bl ++ wrT L[j]).length = q := ⟨_, rfl⟩
                    have Hq := hid hq
                    have hqe : (bl ++ wrT L[j]).length = q := hq
                    clear hq
                    by_cases h6 : 65536 < q
                    · have h6i : (65536 : Int) < (q : Int) := by omega
                      have h6d : decide ((65536 : Int) < (q : Int)) = true := decide_eq_true h6i
                      have HS := hid (HS2.out.1 (by rw [hqe]; exact h6))
                      clear hqe
                      go_wp2_with (first | (go_at_call 17; refine (HEt.out _).mono ?_; rintro e w3 ⟨t, rfl, ht, hb3⟩; have HW3 := hid (HW2.out.keep hb3); have HwT : Hid (wrT L[j] = t.data.toList) := hid (by unfold wrT; rw [if_neg (by rw [Hk.out]; decide), if_neg (by rw [Hk.out]; decide), if_pos Hk.out, ht.out, Hlx.out])) | (at_builtin; refine wpl_wbs rfl _ _ rfl HW3.out rfl _ rfl ?len ?_; (case len => have := hwl; rw [HwT.out, len_data] at this; omega); intro V1 w4 hW4; obtain ⟨A6, c6, hV6⟩ := hW4.shp (q := q) (by rw [← Hq.out, HwT.out]); subst hV6; have HW5 := hid hW4; clear hW4))
                      go_ret2
                      refine ⟨_, _, rfl, hid ?_, hid HS.out.2.symm, by rw [Hbase.out]; exact HW5.out.bel⟩
                      rw [HS.out.1] <;> rfl
                    · have h6i : ¬ (65536 : Int) < (q : Int) := by omega
                      have h6d : decide ((65536 : Int) < (q : Int)) = false := decide_eq_false h6i
                      have HS := hid (HS2.out.2 (by rw [hqe]; exact h6))
                      have hql : (bl ++ wrT L[j]).length ≤ 65536 := by omega
                      clear hqe
                      go_wp2_with (first | (go_at_call 17; refine (HEt.out _).mono ?_; rintro e w3 ⟨t, rfl, ht, hb3⟩; have HW3 := hid (HW2.out.keep hb3); have HwT : Hid (wrT L[j] = t.data.toList) := hid (by unfold wrT; rw [if_neg (by rw [Hk.out]; decide), if_neg (by rw [Hk.out]; decide), if_pos Hk.out, ht.out, Hlx.out])) | (at_builtin; refine wpl_wbs rfl _ _ rfl HW3.out rfl _ rfl ?len ?_; (case len => have := hwl; rw [HwT.out, len_data] at this; omega); intro V1 w4 hW4; obtain ⟨A6, c6, hV6⟩ := hW4.shp (q := q) (by rw [← Hq.out, HwT.out]); subst hV6; have HW5 := hid hW4; clear hW4))
                      go_roundg (i - (j + 1))
                      case measure => omega
                      case rel => exact ⟨j + 1, bl ++ wrT L[j], by go_num, by omega, rfl, hql, hid HS.out, hid (by rw [HwT.out]; exact HW5.out.own), hid HW5.out.bel⟩
                  · have h3b : (k == 3) = false := beq_eq_false_iff_ne.2 h3
                    have c1 : ¬ 9223372036854775807 < 4 + tx.size := by omega
                    have c2 : ¬ 9223372036854775807 < 4 + tx.size + 3 := by omega
                    have HwT : Hid (wrT L[j] = (⟨#[60, 33, 45, 45]⟩ ++ tx ++ ⟨#[45, 45, 62]⟩ : ByteArray).data.toList) := hid (by
                      unfold wrT
                      rw [if_neg (by rw [Hk.out]; exact h1), if_neg (by rw [Hk.out]; exact h2), if_neg (by rw [Hk.out]; exact h3), data_append, data_append, Hlx.out]; simp)
                    obtain ⟨q, hq⟩ : ∃ q, (bl ++ wrT L[j]).length = q := ⟨_, rfl⟩
                    have Hq := hid hq
                    have hqe : (bl ++ wrT L[j]).length = q := hq
                    clear hq
                    by_cases h6 : 65536 < q
                    · have h6i : (65536 : Int) < (q : Int) := by omega
                      have h6d : decide ((65536 : Int) < (q : Int)) = true := decide_eq_true h6i
                      have HS := hid (HS2.out.1 (by rw [hqe]; exact h6))
                      clear hqe
                      go_wp2_with (at_builtin; refine wpl_wbs rfl _ _ rfl HW2.out rfl _ rfl ?len ?_; (case len => have := hwl; rw [HwT.out, len_data] at this; omega); intro V1 w4 hW4; obtain ⟨A6, c6, hV6⟩ := hW4.shp (q := q) (by rw [← Hq.out, HwT.out]); subst hV6; have HW5 := hid hW4; clear hW4)
                      go_ret2
                      refine ⟨_, _, rfl, hid ?_, hid HS.out.2.symm, by rw [Hbase.out]; exact HW5.out.bel⟩
                      rw [HS.out.1] <;> rfl
                    · have h6i : ¬ (65536 : Int) < (q : Int) := by omega
                      have h6d : decide ((65536 : Int) < (q : Int)) = false := decide_eq_false h6i
                      have HS := hid (HS2.out.2 (by rw [hqe]; exact h6))
                      have hql : (bl ++ wrT L[j]).length ≤ 65536 := by omega
                      clear hqe
                      go_wp2_with (at_builtin; refine wpl_wbs rfl _ _ rfl HW2.out rfl _ rfl ?len ?_; (case len => have := hwl; rw [HwT.out, len_data] at this; omega); intro V1 w4 hW4; obtain ⟨A6, c6, hV6⟩ := hW4.shp (q := q) (by rw [← Hq.out, HwT.out]); subst hV6; have HW5 := hid hW4; clear hW4)
                      go_roundg (i - (j + 1))
                      case measure => omega
                      case rel => exact ⟨j + 1, bl ++ wrT L[j], by go_num, by omega, rfl, hql, hid HS.out, hid (by rw [HwT.out]; exact HW5.out.own), hid HW5.out.bel⟩
        · obtain rfl : j = i := by omega
          have hnn : ¬ (j : Int) < (j : Int) := by omega
          have hnd : decide ((j : Int) < (j : Int)) = false := decide_eq_false hnn
          have HF : Hid (bl = rs ∧ (0 : Int) = rn) := hid (by
            have := hS.out
            rw [wrS_end _ _ (by rw [Hn.out]; exact Nat.le_refl _)] at this
            injection this with a b
            exact ⟨a, b⟩)
          have hcv := hO.out.back
          go_wp2_with fail
          go_ret2
          refine ⟨_, _, rfl, hid ?_, hid HF.out.2, by rw [Hbase.out]; exact hbr.out⟩
          rw [← HF.out.1]
end Go.Proofs.Ytihgmgpcdodknaa
