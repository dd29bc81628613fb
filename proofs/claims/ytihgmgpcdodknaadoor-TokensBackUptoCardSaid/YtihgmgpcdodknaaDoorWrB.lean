import Derived.Test.YtihgmgpcdodknaaDoorOnB
set_option linter.unusedVariables false
/- tokens.Write; the law TokensBack: its walk. -/
namespace Go.Proofs.YtihgmgpcdodknaaDoor
open Go.RowKit

theorem chkAll_drop (L : List Tk) (i : Nat) (h : i < L.length) : chkAll (L.drop i) = if chkI L[i] = 0 then chkAll (L.drop (i + 1)) else chkI L[i] := by
  rw [List.drop_eq_getElem_cons h]; rfl
theorem chkAll_end (L : List Tk) (i : Nat) (h : L.length ≤ i) : chkAll (L.drop i) = 0 := by rw [List.drop_of_length_le h]; rfl
theorem wrS_drop (L : List Tk) (i : Nat) (h : i < L.length) (p : Bool) (b : List UInt8) : wrS (L.drop i) p b = if wrBar L[i] p then ([], 9) else if 65536 < (b ++ wrT L[i]).length then ([], 5) else wrS (L.drop (i + 1)) (L[i].k == 3) (b ++ wrT L[i]) := by
  rw [List.drop_eq_getElem_cons h]; rfl
theorem wrS_end (L : List Tk) (i : Nat) (h : L.length ≤ i) (p : Bool) (b : List UInt8) : wrS (L.drop i) p b = (b, 0) := by rw [List.drop_of_length_le h]; rfl
def prevB (L : List Tk) (i : Nat) : Bool := decide (0 < i) && ((L[i - 1]?).map (·.k) == some 3)
theorem prevB_succ (L : List Tk) (i : Nat) (h : i < L.length) : prevB L (i + 1) = (L[i].k == 3) := by
  unfold prevB
  rw [Nat.add_sub_cancel, List.getElem?_eq_getElem h]
  simp
theorem chk_kind (t : Tk) (h : chkI t = 0) : t.k = 1 ∨ t.k = 2 ∨ t.k = 3 ∨ t.k = 4 := by
  unfold chkI at h
  split at h
  · cases h
  · omega
set_option maxRecDepth 100000 in
set_option maxHeartbeats 12800000 in
theorem writeB_any (L : List Tk) (V : Value) (w : World) (hV : TkA w w.heap.size V L) (hll : L.length ≤ 1048576) (hb : ∀ t ∈ L, TkB 1048576 t) (hT : TabsAt w) (hM : MaxAt w) :
    Calls Tryd.prog 14 #[V] w (RStrInt w (wrL L).1 (wrL L).2) := by
  obtain ⟨A, ca, cs0, rfl, hr, ht⟩ := hV
  obtain ⟨n, hn⟩ : ∃ n, L.length = n := ⟨_, rfl⟩
  have Hb := hid hb
  have Hr := hid hr
  have Ht := hid ht
  have Hn := hid hn
  have HTb := hid (fun W (h : Below w.heap.size w W) => hT.keep h)
  have HMx := hid (fun W (h : Below w.heap.size w W) => hM.keep h)
  have HT0 := hid hT
  rw [hn] at hll ⊢
  clear hb hr ht hn hT hM
  obtain ⟨base, hbase⟩ : ∃ b, w.heap.size = b := ⟨_, rfl⟩
  have Hbase := hid hbase
  rw [hbase] at Hr Ht HTb HMx
  obtain ⟨rb, hrb⟩ : ∃ r, wrL L = r := ⟨_, rfl⟩
  obtain ⟨rs, rn⟩ := rb
  rw [hrb]
  have Hbad : Hid (∀ e : Int, chkAll L = e → e ≠ 0 → rs = [] ∧ rn = e) := hid (fun e h1 h2 => by
    have := hrb
    unfold wrL at this
    rw [h1, if_neg h2] at this
    injection this with a b
    exact ⟨a.symm, b.symm⟩)
  have Hgood : Hid (chkAll L = 0 → wrS L false [] = (rs, rn)) := hid (fun h1 => by
    have := hrb
    unfold wrL at this
    rwa [if_pos h1] at this)
  have HCk := hid (fun t va W ha hl hn hx hb hT hM => checkB_any t va W ha hl hn hx hb hT hM)
  have HEl := hid (fun s W => element_any s W)
  clear hrb hbase
  go_enter Tryd.func14, Tryd.ntmps14
  go_wp2_with fail
  go_loopg [13] n (fun g v13 wr => ∃ i : Nat, v13 = .int .i64 (i : Int) ∧ i ≤ n ∧ g = n - i ∧ Hid (chkAll L = chkAll (L.drop i)) ∧ Hid (∀ t ∈ L.take i, chkI t = 0) ∧ Hid (Below base w wr))
  case atStart => exact ⟨0, rfl, Nat.zero_le _, rfl, hid rfl, hid (fun t h => by simp at h), hid (Below.refl _ _)⟩
  case round =>
    obtain ⟨i, rfl, hi, rfl, hck, hok, hbr⟩ := hrel
    have hi0 : (0 : Int) ≤ (i : Int) := by omega
    by_cases hlt : i < n
    · have hlt1 : i < L.length := by rw [Hn.out]; exact hlt
      have hil : (i : Int) < (n : Int) := by omega
      have hild : decide ((i : Int) < (n : Int)) = true := decide_eq_true hil
      obtain ⟨ad, va, rfl, hadb, p0, p1, p2, p3, p4, p5⟩ := tk_read (Hr.out.below hbr.out) (TkR.map (fun v l hv => hv.below hbr.out) L cs0 Ht.out) hlt1
      have hsz : base ≤ wr.heap.size := by have := hbr.out.size; have := Hbase.out; omega
      have htb := Hb.out _ (List.getElem_mem hlt1)
      obtain ⟨A5, c5, rfl, hr5⟩ := p5
      obtain ⟨W0, hW0⟩ : ∃ W0, wr.alloc (.cells #[.int .i64 L[i].k, .string (bs L[i].n), .string (bs L[i].x), .slice A5 L[i].ats.length c5, .bool L[i].c] 53) = W0 := ⟨_, rfl⟩
      have hal : Below wr.heap.size wr W0 := by rw [← hW0]; exact alloc_below wr _
      have hbW : Below base w W0 := hbr.out.trans (hal.mono hsz)
      have hHT : Blk W0 wr.heap.size 53 #[.int .i64 L[i].k, .string (bs L[i].n), .string (bs L[i].x), .slice A5 L[i].ats.length c5, .bool L[i].c] := by rw [← hW0]; exact Blk.new wr _ _
      have HC := hid (HCk.out L[i] (.slice A5 L[i].ats.length c5) W0 ⟨A5, c5, rfl, (hr5.below (hal.mono hsz)).more (Nat.le_trans hsz hal.size)⟩ htb.1 htb.2.1 htb.2.2.1 (fun a ha => by have := attsLen_mem ha; have := htb.2.2.2; omega) (HTb.out W0 hbW) (HMx.out W0 hbW))
      obtain ⟨ce, hce⟩ : ∃ c, chkI L[i] = c := ⟨_, rfl⟩
      rw [hce] at HC
      have Hce := hid hce
      obtain ⟨k, hk⟩ : ∃ k, L[i].k = k := ⟨_, rfl⟩
      obtain ⟨tn, htn⟩ : ∃ x, bs L[i].n = x := ⟨_, rfl⟩
      obtain ⟨tx, htx⟩ : ∃ x, bs L[i].x = x := ⟨_, rfl⟩
      obtain ⟨c, hc⟩ : ∃ x, L[i].c = x := ⟨_, rfl⟩
      obtain ⟨n5, hn5⟩ : ∃ x, L[i].ats.length = x := ⟨_, rfl⟩
      rw [hk] at p0
      rw [htn] at p1
      rw [htx] at p2
      rw [hn5] at p3
      rw [hc] at p4
      rw [hk, htn, htx, hc, hn5] at HC hHT hW0
      have HHT := hid hHT
      have HbW0 := hid hbW
      have T0 : W0.cell? ⟨wr.heap.size, 0, none⟩ = some (.int .i64 k) := (hHT.cell 0).trans rfl
      have T1 : W0.cell? ⟨wr.heap.size, 1, none⟩ = some (.string tn) := (hHT.cell 1).trans rfl
      have T2 : W0.cell? ⟨wr.heap.size, 2, none⟩ = some (.string tx) := (hHT.cell 2).trans rfl
      have T3 : W0.cell? ⟨wr.heap.size, 3, none⟩ = some (.slice A5 n5 c5) := (hHT.cell 3).trans rfl
      have T4 : W0.cell? ⟨wr.heap.size, 4, none⟩ = some (.bool c) := (hHT.cell 4).trans rfl
      clear hk htn htx hc hn5 hce htb hr5 hal hbW hHT
      by_cases h0 : ce = 0
      · subst h0
        go_wp2_with (go_at_call 45; refine HC.out.mono ?_; rintro e w1 ⟨rfl, hb1⟩)
        go_roundg (n - (i + 1))
        case measure => omega
        case rel => exact ⟨i + 1, by go_num, by omega, rfl, hid (by rw [hck.out, chkAll_drop L i hlt1, if_pos Hce.out]), hid (fun t h => by
          rw [List.take_succ_eq_append_getElem hlt1] at h
          rcases List.mem_append.1 h with h | h
          · exact hok.out t h
          · simp only [List.mem_cons, List.not_mem_nil, or_false] at h
            rw [h]; exact Hce.out), hid (HbW0.out.trans (hb1.mono (by have := HbW0.out.size; have := Hbase.out; omega)))⟩
      · have h0b : (ce == 0) = false := beq_eq_false_iff_ne.2 h0
        have h0c : (ce != 0) = true := by rw [bne, h0b]; rfl
        have hR := hid (Hbad.out ce (by rw [hck.out, chkAll_drop L i hlt1, if_neg (by rw [Hce.out]; exact h0), Hce.out]) h0)
        go_wp2_with (go_at_call 45; refine HC.out.mono ?_; rintro e w1 ⟨rfl, hb1⟩)
        go_ret2
        refine ⟨_, _, rfl, hid ?_, hid hR.out.2.symm, by rw [Hbase.out]; exact HbW0.out.trans (hb1.mono (by have := HbW0.out.size; have := Hbase.out; omega))⟩
        rw [hR.out.1] <;> rfl
    · obtain rfl : i = n := by omega
      have hnn : ¬ (i : Int) < (i : Int) := by omega
      have hnd : decide ((i : Int) < (i : Int)) = false := decide_eq_false hnn
      have HG := hid (Hgood.out (by rw [hck.out, chkAll_end _ _ (by rw [Hn.out]; exact Nat.le_refl _)]))
      have HOk : Hid (∀ t ∈ L, chkI t = 0) := hid (by have := hok.out; rwa [List.take_of_length_le (by rw [Hn.out]; exact Nat.le_refl _)] at this)
      clear hck Hbad Hgood HCk hok
      have Hbr := hbr
      obtain ⟨bb, hbb⟩ : ∃ b, wr.heap.size = b := ⟨_, rfl⟩
      have hbb2 : base ≤ bb := by have := hbr.out.size; have := Hbase.out; omega
      have HB0 : Hid (Bld bb (bb + 1) [] (wr.alloc (.cells #[.pointer none, .slice none 0 0] 57))) := hid (by rw [← hbb]; exact Bld.new wr)
      have HBr0 : Hid (Below base w (wr.alloc (.cells #[.pointer none, .slice none 0 0] 57))) := hid (hbr.out.alloc (by omega) _)
      go_wp2_with fail
      clear hbb
      go_loopg [25] i (fun g v25 wr => ∃ (j : Nat) (bl : List UInt8), v25 = .int .i64 (j : Int) ∧ j ≤ i ∧ g = i - j ∧ bl.length ≤ 65536 ∧ Hid (wrS (L.drop j) (prevB L j) bl = (rs, rn)) ∧ Hid (Bld bb (bb + 1) bl wr) ∧ Hid (Below base w wr))
      case atStart => exact ⟨0, [], rfl, Nat.zero_le _, rfl, by simp, hid HG.out, HB0, HBr0⟩
      case round =>
        obtain ⟨j, bl, rfl, hj, rfl, hbl, hS, hO, hbr⟩ := hrel
        rename World => wr
        have hj0 : (0 : Int) ≤ (j : Int) := by omega
        have hsz : base ≤ wr.heap.size := by have := hbr.out.size; have := Hbase.out; omega
        by_cases hlt : j < i
        · have hlt1 : j < L.length := by rw [Hn.out]; exact hlt
          have hjl : (j : Int) < (i : Int) := by omega
          have hjd : decide ((j : Int) < (i : Int)) = true := decide_eq_true hjl
          obtain ⟨ad, va, rfl, hadb, p0w, p1w, p2w, p3w, p4w, p5⟩ := tk_read Hr.out Ht.out hlt1
          have hcb : (ad.add (j * 5)).block < base := by rw [block_of_add]; exact hadb
          have p0 := (hbr.out.cell (p := ad.add (j * 5)) hcb).trans p0w
          have p1 := (hbr.out.cell (p := ⟨(ad.add (j * 5)).block, (ad.add (j * 5)).off + 1, none⟩) hcb).trans p1w
          have p2 := (hbr.out.cell (p := ⟨(ad.add (j * 5)).block, (ad.add (j * 5)).off + 2, none⟩) hcb).trans p2w
          have p3 := (hbr.out.cell (p := ⟨(ad.add (j * 5)).block, (ad.add (j * 5)).off + 3, none⟩) hcb).trans p3w
          have p4 := (hbr.out.cell (p := ⟨(ad.add (j * 5)).block, (ad.add (j * 5)).off + 4, none⟩) hcb).trans p4w
          clear p0w p1w p2w p3w p4w hcb
          have htb := Hb.out _ (List.getElem_mem hlt1)
          have hkk := chk_kind _ (HOk.out _ (List.getElem_mem hlt1))
          obtain ⟨A5, c5, rfl, hr5⟩ := p5
          obtain ⟨W, hW⟩ : ∃ W, wr.alloc (.cells #[.int .i64 L[j].k, .string (bs L[j].n), .string (bs L[j].x), .slice A5 L[j].ats.length c5, .bool L[j].c] 53) = W := ⟨_, rfl⟩
          have hal : Below wr.heap.size wr W := by rw [← hW]; exact alloc_below wr _
          have hbW : Below base w W := hbr.out.trans (hal.mono hsz)
          have hHT : Blk W wr.heap.size 53 #[.int .i64 L[j].k, .string (bs L[j].n), .string (bs L[j].x), .slice A5 L[j].ats.length c5, .bool L[j].c] := by rw [← hW]; exact Blk.new wr _ _
          have HO1 := hid (oneB_any L[j] (.slice A5 L[j].ats.length c5) bb (bb + 1) bl w W (hO.out.keep hal) (by rw [Hbase.out]; exact hbW) (by rw [Hbase.out]; exact hbb2) ⟨A5, c5, rfl, by rw [Hbase.out]; exact hr5⟩ HT0.out hbl htb hkk)
          obtain ⟨k, hk⟩ : ∃ k, L[j].k = k := ⟨_, rfl⟩
          obtain ⟨tn, htn⟩ : ∃ x, bs L[j].n = x := ⟨_, rfl⟩
          obtain ⟨tx, htx⟩ : ∃ x, bs L[j].x = x := ⟨_, rfl⟩
          obtain ⟨c, hc⟩ : ∃ x, L[j].c = x := ⟨_, rfl⟩
          obtain ⟨n5, hn5⟩ : ∃ x, L[j].ats.length = x := ⟨_, rfl⟩
          have hln : tn.data.toList = L[j].n := by rw [← htn, bs_list]
          rw [hk] at p0
          rw [htn] at p1
          rw [htx] at p2
          rw [hn5] at p3
          rw [hc] at p4
          have hprev : j = 0 ∧ prevB L j = false ∨ ∃ m k0, j = m + 1 ∧ prevB L j = (k0 == 3) ∧ wr.cell? (ad.add (m * 5)) = some (.int .i64 k0) := by
            rcases Nat.eq_zero_or_pos j with h | h
            · exact .inl ⟨h, by rw [h]; rfl⟩
            · obtain ⟨m, rfl⟩ : ∃ m, j = m + 1 := ⟨j - 1, by omega⟩
              have hm1 : m < L.length := by omega
              obtain ⟨ad', va', e', -, q0, -⟩ := tk_read (Hr.out.below hbr.out) (TkR.map (fun v l hv => hv.below hbr.out) L cs0 Ht.out) hm1
              injection e' with e'
              subst e'
              exact .inr ⟨m, L[m].k, rfl, prevB_succ L m hm1, q0⟩
          obtain ⟨pb, hpb⟩ : ∃ b, prevB L j = b := ⟨_, rfl⟩
          obtain ⟨ek, hek⟩ : ∃ x, elemK tn.data.toList = x := ⟨_, rfl⟩
          obtain ⟨bar, hbar⟩ : ∃ b, wrBar L[j] (prevB L j) = b := ⟨_, rfl⟩
          have hbar2 : bar = ((k == 3 && pb) || (k == 1 && decide (1 ≤ ek) && decide (ek ≤ 3))) := by
            rw [← hbar, hpb, ← hek, hln]
            unfold wrBar
            rw [hk]
          have hSd := hS.out
          rw [wrS_drop L j hlt1, hbar] at hSd
          have HSd := hid hSd
          rw [hpb] at hprev
          have Hbar := hid hbar2
          have Hprev := hid hprev
          have HE := hid (HEl.out tn)
          rw [hek] at HE
          rw [hk, htn, htx, hc, hn5] at HO1 hHT hW
          have HHT := hid hHT
          have HbW := hid hbW
          have Hal := hid hal
          have T0 : W.cell? ⟨wr.heap.size, 0, none⟩ = some (.int .i64 k) := (hHT.cell 0).trans rfl
          have T1 : W.cell? ⟨wr.heap.size, 1, none⟩ = some (.string tn) := (hHT.cell 1).trans rfl
          have T2 : W.cell? ⟨wr.heap.size, 2, none⟩ = some (.string tx) := (hHT.cell 2).trans rfl
          have T3 : W.cell? ⟨wr.heap.size, 3, none⟩ = some (.slice A5 n5 c5) := (hHT.cell 3).trans rfl
          have T4 : W.cell? ⟨wr.heap.size, 4, none⟩ = some (.bool c) := (hHT.cell 4).trans rfl
          clear hk htn htx hc hn5 htb hln hpb hek hbar hSd hbar2 hprev hS hr5 hkk hbW hal hHT
          go_upto_region 12 with fail
          obtain ⟨pt, hpt⟩ : ∃ pt, wr.heap.size = pt := ⟨_, rfl⟩
          rw [hpt] at T0 T1 T2 T3 T4 ⊢
          clear hW hpt p0 p1 p2 p3 p4
          go_upto_region 13 with (go_at_call 46; refine (HE.out _).mono ?_; rintro e w2 ⟨rfl, hw⟩; obtain rfl := hw)
          rename World => W
          go_cut [61] from 26 to 66 (fun v61 wx => v61 = .bool bar ∧ wx = W)
          case first =>
            by_cases h3 : k = 3
            · subst h3
              rcases Hprev.out with ⟨h0, hp⟩ | ⟨m, k0, hm, hp, hc0⟩
              · have z1 : ¬ (0 : Int) < (j : Int) := by omega
                have z2 : decide ((0 : Int) < (j : Int)) = false := decide_eq_false z1
                have Hr6 : Hid (bar = false) := hid (by rw [Hbar.out, hp]; rfl)
                clear h0
                go_wp2_with fail
                go_meet
                case rel => exact ⟨congrArg Value.bool (by rw [Hr6.out] <;> rfl), rfl⟩
              · have z1 : (0 : Int) < (j : Int) := by omega
                have z2 : decide ((0 : Int) < (j : Int)) = true := decide_eq_true z1
                have zw : IntKind.i64.wrap ((j : Int) - 1) = (m : Int) := by
                  have e : (j : Int) - 1 = (m : Int) := by omega
                  rw [e]
                  exact IntWalk.i64_in _ (by omega)
                have zm0 : (0 : Int) ≤ (m : Int) := by omega
                have zm1 : (m : Int) < (i : Int) := by omega
                have hc2 := (Hal.out.cell (p := ad.add (m * 5)) (by rw [block_of_add]; omega)).trans hc0
                clear hm hc0
                by_cases h4 : k0 = 3
                · subst h4
                  have Hr6 : Hid (bar = true) := hid (by rw [Hbar.out, hp]; rfl)
                  go_wp2_with fail
                  go_meet
                  case rel => exact ⟨congrArg Value.bool (by rw [Hr6.out] <;> rfl), rfl⟩
                · have h4b : (k0 == 3) = false := beq_eq_false_iff_ne.2 h4
                  have Hr6 : Hid (bar = false) := hid (by rw [Hbar.out, hp, h4b]; rfl)
                  go_wp2_with fail
                  go_meet
                  case rel => exact ⟨congrArg Value.bool (by rw [Hr6.out] <;> rfl), rfl⟩
            · have h3b : (k == 3) = false := beq_eq_false_iff_ne.2 h3
              by_cases h1 : k = 1
              · subst h1
                by_cases he1 : 1 ≤ ek
                · have y1 : decide (1 ≤ ek) = true := decide_eq_true he1
                  by_cases he2 : ek ≤ 3
                  · have y2 : decide (ek ≤ 3) = true := decide_eq_true he2
                    have Hr6 : Hid (bar = true) := hid (by rw [Hbar.out, y1, y2]; rfl)
                    go_wp2_with fail
                    go_meet
                    case rel => exact ⟨congrArg Value.bool (by rw [Hr6.out] <;> rfl), rfl⟩
                  · have y2 : decide (ek ≤ 3) = false := decide_eq_false he2
                    have Hr6 : Hid (bar = false) := hid (by rw [Hbar.out, y2]; simp)
                    go_wp2_with fail
                    go_meet
                    case rel => exact ⟨congrArg Value.bool (by rw [Hr6.out] <;> rfl), rfl⟩
                · have y1 : decide (1 ≤ ek) = false := decide_eq_false he1
                  have Hr6 : Hid (bar = false) := hid (by rw [Hbar.out, y1]; simp)
                  go_wp2_with fail
                  go_meet
                  case rel => exact ⟨congrArg Value.bool (by rw [Hr6.out] <;> rfl), rfl⟩
              · have h1b : (k == 1) = false := beq_eq_false_iff_ne.2 h1
                have Hr6 : Hid (bar = false) := hid (by rw [Hbar.out, h3b, h1b]; rfl)
                go_wp2_with fail
                go_meet
                case rel => exact ⟨congrArg Value.bool (by rw [Hr6.out] <;> rfl), rfl⟩
          case rest =>
            obtain ⟨rfl, rfl⟩ := hcut
            rename World => W2
            cases bar with
            | true =>
              have HS : Hid (rs = [] ∧ rn = 9) := hid (by
                have := HSd.out
                rw [if_pos rfl] at this
                injection this with a b
                exact ⟨a.symm, b.symm⟩)
              go_wp2_with fail
              go_ret2
              refine ⟨_, _, rfl, hid ?_, hid HS.out.2.symm, by rw [Hbase.out]; exact HbW.out⟩
              rw [HS.out.1] <;> rfl
            | false =>
              have HS2 : Hid ((65536 < (bl ++ wrT L[j]).length → rs = [] ∧ rn = 5) ∧ (¬ 65536 < (bl ++ wrT L[j]).length → wrS (L.drop (j + 1)) (prevB L (j + 1)) (bl ++ wrT L[j]) = (rs, rn))) := hid (by
                have := HSd.out
                rw [if_neg (by simp)] at this
                refine ⟨fun h => ?_, fun h => ?_⟩
                · rw [if_pos h] at this
                  injection this with a b
                  exact ⟨a.symm, b.symm⟩
                · rw [if_neg h] at this
                  rw [prevB_succ L j hlt1]
                  exact this)
              obtain ⟨l6, hl6⟩ : ∃ z, bl ++ wrT L[j] = z := ⟨_, rfl⟩
              rw [hl6] at HS2 HO1
              have HLn := hid (fun W (h : Bld bb (bb + 1) l6 W) => blen_any bb (bb + 1) l6 W h)
              obtain ⟨q, hq⟩ : ∃ q, l6.length = q := ⟨_, rfl⟩
              rw [hq] at HS2 HLn
              have Hq := hid hq
              clear HSd Hbar Hprev hl6 hq
              by_cases h6 : 65536 < q
              · have h6i : (65536 : Int) < (q : Int) := by omega
                have h6d : decide ((65536 : Int) < (q : Int)) = true := decide_eq_true h6i
                have HS := hid (HS2.out.1 h6)
                go_wp2_with (first
                  | (go_at_call 47; refine HO1.out.mono ?_; rintro e w4 ⟨rfl, hB4, hf4, hw4⟩)
                  | (go_at_call 48; refine (HLn.out _ hB4).mono ?_; rintro e w5 ⟨rfl, hw⟩; obtain rfl := hw))
                go_ret2
                refine ⟨_, _, rfl, hid ?_, hid HS.out.2.symm, hw4⟩
                rw [HS.out.1] <;> rfl
              · have h6i : ¬ (65536 : Int) < (q : Int) := by omega
                have h6d : decide ((65536 : Int) < (q : Int)) = false := decide_eq_false h6i
                have HS := hid (HS2.out.2 h6)
                go_wp2_with (first
                  | (go_at_call 47; refine HO1.out.mono ?_; rintro e w4 ⟨rfl, hB4, hf4, hw4⟩)
                  | (go_at_call 48; refine (HLn.out _ hB4).mono ?_; rintro e w5 ⟨rfl, hw⟩; obtain rfl := hw))
                go_roundg (i - (j + 1))
                case measure => omega
                case rel => exact ⟨j + 1, l6, by go_num, by omega, rfl, by rw [Hq.out]; omega, hid HS.out, hid hB4, hid (by rw [← Hbase.out]; exact hw4)⟩
        · obtain rfl : j = i := by omega
          have hnn : ¬ (j : Int) < (j : Int) := by omega
          have hnd : decide ((j : Int) < (j : Int)) = false := decide_eq_false hnn
          have HF : Hid (bl = rs ∧ (0 : Int) = rn) := hid (by
            have := hS.out
            rw [wrS_end _ _ (by rw [Hn.out]; exact Nat.le_refl _)] at this
            injection this with a b
            exact ⟨a, b⟩)
          have HSt := hid (bstr_any bb (bb + 1) bl wr hO.out)
          go_wp2_with fail
          refine HSt.out.mono ?_
          rintro e w5 ⟨rfl, hb5⟩
          go_wp2_with fail
          go_ret2
          refine ⟨_, _, rfl, hid ?_, hid HF.out.2, by rw [Hbase.out]; exact hbr.out.trans (hb5.mono hbb2)⟩
          rw [← HF.out.1]
end Go.Proofs.YtihgmgpcdodknaaDoor
/- The law TokensBack: its walk. -/
namespace Go.Proofs.YtihgmgpcdodknaaDoor
open Go.RowKit

set_option maxRecDepth 100000 in
set_option maxHeartbeats 6400000 in
theorem tokensBack_any (A : Option Addr) (c : Nat) (M : List Tk) (w : World) (hll : M.length ≤ 1048576) (hV : TkA w w.heap.size (.slice A M.length c) M) (hf : ∀ t ∈ M, TkB 1048576 t) (hT : TabsAt w) (hm : MaxAt w) :
    Calls Tryd.prog 3 #[.slice A M.length c] w fun e w' => e = .returned (.bool true) ∧ Below w.heap.size w w' := by
  have Hal := hid (fun W (hM : MaxAt W) => alive12_any W hM)
  have Hwr := hid (fun W hV hT hM => writeB_any M (.slice A M.length c) W hV hll hf hT hM)
  have Htk := hid (fun s W hs (hM : MaxAt W) => tokens_any s W hs hM)
  have Hnu := hid (fun n W => num12_any n W)
  have HV := hid hV
  have Hm := hid hm
  have HT := hid hT
  have Hats : Hid (∀ t ∈ M, t.ats.length ≤ 9223372036854775807) := hid (fun t ht => Nat.le_trans (hf t ht).1 (by omega))
  obtain ⟨wr, hwr⟩ : ∃ r, wrL M = r := ⟨_, rfl⟩
  obtain ⟨ws, we⟩ := wr
  rw [hwr] at Hwr
  have Hwl := hid hwr
  obtain ⟨n, hn⟩ : ∃ n, M.length = n := ⟨_, rfl⟩
  have Hn := hid hn
  rw [hn] at HV Hwr ⊢
  have hnb : n ≤ 1048576 := by omega
  clear hwr hV hm hn hf hll hT
  go_enter Tryd.func3, Tryd.ntmps3
  go_upto_region 3 with (go_at_call 13; refine (Hal.out _ Hm.out).mono ?_; rintro e w1 ⟨rfl, hb1⟩)
  have Hb1 := hid hb1
  have Hw1 := hid (Hwr.out w1 ((HV.out.below hb1).more hb1.size) (HT.out.keep hb1) (Hm.out.keep hb1))
  clear hb1
  go_upto_region 4 with (go_at_call 14; refine Hw1.out.mono ?_; rintro e w2 ⟨ts, er, rfl, hts, her, hb2⟩)
  have Hb2 := hid (Hb1.out.trans (hb2.mono Hb1.out.size))
  have Hn1 := hid (fun W => Hnu.out er W)
  by_cases he : er = 0
  · have hwl2 : wrL M = (ts.data.toList, 0) := by rw [Hwl.out, ← he, hts.out, her.out]
    obtain ⟨-, -, -, hlt⟩ := wrL_ok M _ hwl2
    rw [len_data] at hlt
    have Hbk := hid (toks_back M _ hwl2)
    rw [Hn.out] at Hbk
    subst he
    have Htk2 := hid (Htk.out ts w2 (by omega) (Hm.out.keep Hb2.out))
    clear hts her hwl2 hb2
    by_cases h4 : n ≤ 4096
    · rw [if_pos h4] at Hbk
      rw [Hbk.out] at Htk2
      have h4b : ¬ (4096 : Int) < (n : Int) := by omega
      go_upto_region 7 with (first
        | (go_at_call 15; refine (Hn1.out _).mono ?_; rintro e w7 ⟨rfl, hw⟩; obtain rfl := hw)
        | (go_at_call 16; refine Htk2.out.mono ?_; rintro e w3 ⟨Va, rfl, hTa, hb3⟩))
      have Hb3 := hid (Hb2.out.trans (hb3.mono Hb2.out.size))
      have Hsm := hid (sameAll_any M M (.slice A n c) Va w3 ((HV.out.below Hb3.out).more Hb3.out.size) (TkA.of_own hTa) Hats.out (by rw [Hn.out]; omega))
      rw [(tksEq_iff _ _).2 rfl] at Hsm
      clear hTa hb3
      go_wp2_with (first
        | (go_at_call 15; refine (Hn1.out _).mono ?_; rintro e w7 ⟨rfl, hw⟩; obtain rfl := hw)
        | (go_at_call 17; refine Hsm.out.mono ?_; rintro e w8 ⟨rfl, hb8⟩))
      go_ret
      exact ⟨rfl, Hb3.out.trans (hb8.mono Hb3.out.size)⟩
    · rw [if_neg h4] at Hbk
      rw [Hbk.out] at Htk2
      have Hn3 := hid (fun W => Hnu.out 3 W)
      have h4b : (4096 : Int) < (n : Int) := by omega
      go_wp2_with (first
        | (go_at_call 15; (with_reducible refine (Hn1.out _).mono ?_); rintro e w7 ⟨rfl, hw⟩; obtain rfl := hw)
        | (go_at_call 15; (with_reducible refine (Hn3.out _).mono ?_); rintro e w7 ⟨rfl, hw⟩; obtain rfl := hw)
        | (go_at_call 16; refine Htk2.out.mono ?_; rintro e w3 ⟨Va, rfl, hTa, hb3⟩))
      go_ret
      exact ⟨rfl, Hb2.out.trans (hb3.mono Hb2.out.size)⟩
  · have heb : (er == 0) = false := beq_eq_false_iff_ne.2 he
    have hec : (er != 0) = true := by rw [bne, heb]; rfl
    have hbad := wrL_bad M (by rw [Hwl.out]; show we ≠ 0; rw [← her.out]; exact he)
    have hemp : ts.toList.isEmpty = true := by
      rw [ByteArray.toList_eq, hts.out]
      have : ws = [] := by rw [Hwl.out] at hbad; exact hbad
      rw [this]; rfl
    go_wp2_with (go_at_call 15; refine (Hn1.out _).mono ?_; rintro e w7 ⟨rfl, hw⟩; obtain rfl := hw)
    go_ret
    exact ⟨by simp [*], Hb2.out⟩
end Go.Proofs.YtihgmgpcdodknaaDoor
