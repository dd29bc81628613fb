import Derived.Test.YtihgmgpcdodknaaAlv
import Derived.Test.YtihgmgpcdodknaaShp
import Derived.Test.YtihgmgpcdodknaaTkO
import Derived.Test.YtihgmgpcdodknaaLaw
import Derived.OpenShut
set_option linter.unusedVariables false
/- The law ShapeOwn: its walk. -/
namespace Go.Proofs.Ytihgmgpcdodknaa
open Go.RowKit

theorem run_append_none (w : World) (t ty e : TypeId) (i : TypeInfo) (ht : Try.prog.underlying t = some (.slice e)) (hi : Try.prog.info? e = some i) (g c : Nat) (hint : ∀ k, Try.prog.underlying t ≠ some (.int k)) :
    (Builtin.append_ #[t, t] ty #[.slice (some ⟨g, 0, none⟩) 0 0, .slice none 0 c]).run Try.prog w = .ok (.slice (some ⟨g, 0, none⟩) 0 0) w := by
  simp [Builtin.append_, run_underlying ht, sizeOf, typeInfo, hi, Builtin.lenOf, Builtin.firstCells, storeCells]
/-- append([]api.Attr{}, attributes...) -/
theorem wpl_atts {ops : Array Oper} {rest : List Oper} {o : Oper} {a : Act} {Q : Exit → Act → World → Prop} (hgd : o.guard = none) (s x : Operand)
    (ho : o.op = .call { callee := .builtin .append, args := #[s, x], argTypes := #[34, 34] })
    (W : World) (ats : List Att) (A : Option Addr) (c m B : Nat) (hm : ats.length = m) (hs : a.eval s = .slice (some ⟨W.heap.size, 0, none⟩) 0 0) (hx : a.eval x = .slice A m c)
    (hA : Reads W B 2 A m (attCells ats)) (hB : B ≤ W.heap.size) (hb : m ≤ 1099511627776)
    (h : ∀ v' w', OwnA w' W.heap.size v' ats → Below W.heap.size W w' → wpList Try.prog ops Q rest (a.put o.dst v') w') :
    wpList Try.prog ops Q (o :: rest) a (W.alloc (.cells #[] 39)) := by
  obtain ⟨i0, hi, hz0, hz1, hz2⟩ := info_parts info_at
  have hAl := alloc_below W (.cells #[] 39)
  have hown : (W.alloc (.cells #[] 39)).ownsRow W.heap.size 39 2 (.slice (some ⟨W.heap.size, 0, none⟩) 0 0) 0 [] :=
    ⟨rfl, .inr ⟨W.heap.size, 0, #[], rfl, Nat.le_refl _, heap_alloc_new W _, Nat.le_refl _, Nat.zero_le _, rfl, rfl⟩⟩
  have hlen := hA.1
  cases A with
  | none =>
    have h0 : m = 0 := by
      rcases Nat.eq_zero_or_pos m with h | h
      · exact h
      · obtain ⟨ad, e, _⟩ := hA.2 h
        cases e
    subst h0
    have hat : ats = [] := List.eq_nil_of_length_eq_zero hm
    subst hat
    refine wpList_plain hgd fun K hK => ?_
    have hr := run_append_none (W.alloc (.cells #[] 39)) 34 o.type 39 i0 Try.underlying34 hi W.heap.size c (by rw [Try.underlying34]; intro k e; cases e)
    unfold Oper.wp execOp
    simp only [ho, resolve, invoke, builtin, Sem.run_bind, Sem.run_pure, Result.andThen_ok, List.map_toArray, List.map_cons, List.map_nil, hs, hx, hr]
    exact hK _ _ (h _ _ hown hAl)
  | some ad =>
    have hcells : ∀ j u, (attCells ats)[j]? = some u → (W.alloc (.cells #[] 39)).cell? (ad.add j) = some u := by
      intro j u hu
      have hlt : j < (attCells ats).length := (List.getElem?_eq_some_iff.1 hu).1
      obtain ⟨ad', e, hb1, hc⟩ := hA.2 (by omega)
      obtain rfl := Option.some.inj e
      exact (World.cell?_alloc_lt W _ _ (by rw [block_of_add]; omega)).trans (hc j u hu)
    have hone : ∀ u ∈ attCells ats, u.oneCell' = true := by
      intro u hu
      unfold attCells at hu
      obtain ⟨a, _, ha⟩ := List.mem_flatMap.1 hu
      simp only [List.mem_cons, List.not_mem_nil, or_false] at ha
      rcases ha with rfl | rfl <;> rfl
    refine wpList_append_own (P := Try.prog) _ hgd s x 34 ho W.heap.size 39 i0 _ 2 32 Try.underlying34 hi hz0 hz1 hz2 rfl (by omega) _ 0 [] hs hown ad m c (attCells ats) hx hlen hcells hone (by unfold maxLen; omega) (by omega) (by simp) ?_
    intro v' w' h1 h2 _
    refine h v' w' ?_ (hAl.grown h2 (by simp) (fun k hk => ?_))
    · unfold OwnA
      rw [hm]
      simpa using h1
    · have hk' : some W.heap.size = some k := hk
      rw [← Option.some.inj hk']; exact Nat.le_refl _

set_option maxRecDepth 100000 in
set_option maxHeartbeats 12800000 in
theorem shapeOwn_any (L : List Tk) (V : Value) (w : World) (hb : ∀ t ∈ L, t.ats.length ≤ 1048576) (hll : L.length ≤ 1048576) (hV : TkA w w.heap.size V L) (hm : MaxAt w) :
    Calls Try.prog 10 #[V] w fun e w' => e = .returned (.bool true) ∧ Below w.heap.size w w' := by
  have Hal := hid (alive32_any w hm)
  have HV := hid hV
  obtain ⟨A, ca, cs, rfl, hr, ht⟩ := hV
  obtain ⟨n, hn⟩ : ∃ n, L.length = n := ⟨_, rfl⟩
  have Hb := hid hb
  have Hr := hid hr
  have Ht := hid ht
  have Hn := hid hn
  rw [hn] at hll HV ⊢
  clear hb hr ht hn hm
  obtain ⟨base, hbase⟩ : ∃ b, w.heap.size = b := ⟨_, rfl⟩
  have Hbase := hid hbase
  rw [hbase] at Hr Ht HV Hal ⊢
  clear hbase
  go_enter Try.func10, Try.ntmps10
  go_wp2_with fail
  refine Hal.out.mono ?_
  rintro e w1 ⟨rfl, hb1⟩
  have Hb1 := hid hb1
  have hs1 : base ≤ w1.heap.size := by rw [← Hbase.out]; exact hb1.size
  clear hb1
  go_wp2_with fail
  go_loopg [3, 4, 5] n (fun g v3 v4 v5 wr => ∃ (i : Nat) (B : Nat), v4 = .int .i64 (i : Int) ∧ i ≤ n ∧ g = n - i ∧ base ≤ B ∧ B ≤ wr.heap.size ∧ Hid (OwnL wr base B v3 (L.take i)) ∧ Hid (Below base w wr))
  case atStart => exact ⟨0, base, rfl, Nat.zero_le _, rfl, Nat.le_refl _, hs1, hid (OwnL.nil _ _ _), Hb1⟩
  case round =>
    obtain ⟨i, B, rfl, hi, rfl, hbB, hBs, hO, hbr⟩ := hrel
    have hi0 : (0 : Int) ≤ (i : Int) := by omega
    by_cases hlt : i < n
    · have hlt1 : i < L.length := by rw [Hn.out]; exact hlt
      have hil : (i : Int) < (n : Int) := by omega
      have hild : decide ((i : Int) < (n : Int)) = true := decide_eq_true hil
      obtain ⟨ad, va, rfl, hadb, p0, p1, p2, p3, p4, p5⟩ := tk_read (Hr.out.below hbr.out) (TkR.map (fun v l hv => hv.below hbr.out) L cs Ht.out) hlt1
      obtain ⟨k, hk⟩ : ∃ k, L[i].k = k := ⟨_, rfl⟩
      obtain ⟨tn, htn⟩ : ∃ x, bs L[i].n = x := ⟨_, rfl⟩
      obtain ⟨tx, htx⟩ : ∃ x, bs L[i].x = x := ⟨_, rfl⟩
      obtain ⟨c, hc⟩ : ∃ x, L[i].c = x := ⟨_, rfl⟩
      obtain ⟨ats, hats⟩ : ∃ x, L[i].ats = x := ⟨_, rfl⟩
      have Hat : Hid (ats.length ≤ 1048576) := hid (by rw [← hats]; exact Hb.out _ (List.getElem_mem hlt1))
      have Hsnoc : Hid (L.take (i + 1) = L.take i ++ [⟨k, tn.data.toList, tx.data.toList, ats, c⟩]) := hid (by rw [List.take_succ_eq_append_getElem hlt1, ← hk, ← htn, ← htx, ← hc, ← hats, bs_list, bs_list])
      rw [hk] at p0
      rw [htn] at p1
      rw [htx] at p2
      rw [hc] at p4
      rw [hats] at p5
      obtain ⟨A5, c5, hA5, hR5⟩ := p5
      subst hA5
      obtain ⟨n5, hn5⟩ : ∃ x, ats.length = x := ⟨_, rfl⟩
      rw [hn5] at p3 hR5
      have Hn5 := hid hn5
      have HR5 := hid hR5
      obtain ⟨no, hno⟩ : ∃ no, (L.take i).length = no := ⟨_, rfl⟩
      have hno2 : no ≤ 1099511627776 := by rw [← hno]; have h2 := List.length_take_le i L; have := Hn.out; omega
      have Hno := hid hno
      obtain ⟨A3, c3, hV3⟩ := OwnL.shape hO.out hno
      subst hV3
      have hsz : base ≤ wr.heap.size := by omega
      have q3 : ((wr.alloc (.cells #[.int .i64 k, .string tn, .string tx, .slice A5 n5 c5, .bool c] 36)).alloc (.cells #[] 39)).cell? ⟨(ad.add (i * 5)).block, (ad.add (i * 5)).off + 3, none⟩ = some (.slice A5 n5 c5) := by
        rw [World.cell?_alloc_lt _ _ _ (by rw [block_of_add]; simp; omega), World.cell?_alloc_lt _ _ _ (by rw [block_of_add]; omega)]
        exact p3
      clear hk htn htx hc hats hn5 hR5 hno
      go_wp2_with (first
        | (at_builtin; refine wpl_atts rfl _ _ rfl (wr.alloc (.cells #[.int .i64 k, .string tn, .string tx, .slice A5 n5 c5, .bool c] 36)) ats A5 c5 n5 base Hn5.out (by show Value.slice (some ⟨_, 0, none⟩) 0 0 = _; simp) rfl (HR5.out.alloc hsz _) (by simp; omega) (by have := Hat.out; have := Hn5.out; omega) ?_; intro v' w1' hA' hb1; have HT := hid ((Blk.new wr 36 #[.int .i64 k, .string tn, .string tx, .slice A5 n5 c5, .bool c]).below hb1 (by simp)); have T0 := (HT.out.cell 0).trans rfl; have T1 := (HT.out.cell 1).trans rfl; have T2 := (HT.out.cell 2).trans rfl; have T3w : w1'.cell? ⟨wr.heap.size, 3, none⟩ = some (.slice A5 n5 c5) := (HT.out.cell 3).trans rfl; have T4 := (HT.out.cell 4).trans rfl; have ft := HT.out.frozen 3; obtain ⟨A', c', hV'⟩ := OwnA.shapeV hA' (n := n5) Hn5.out; subst hV'; have HA' := hid hA'; have Hb1' := hid hb1; clear hA' hb1; have HTs := HT.out.set_ 3 (.slice A' n5 c'); have S0 : (w1'.setCell ⟨wr.heap.size, 3, none⟩ (.slice A' n5 c')).cell? ⟨wr.heap.size, 0, none⟩ = some (.int .i64 k) := (HTs.cell 0).trans rfl; have S1 : (w1'.setCell ⟨wr.heap.size, 3, none⟩ (.slice A' n5 c')).cell? ⟨wr.heap.size, 1, none⟩ = some (.string tn) := (HTs.cell 1).trans rfl; have S2 : (w1'.setCell ⟨wr.heap.size, 3, none⟩ (.slice A' n5 c')).cell? ⟨wr.heap.size, 2, none⟩ = some (.string tx) := (HTs.cell 2).trans rfl; have S3 : (w1'.setCell ⟨wr.heap.size, 3, none⟩ (.slice A' n5 c')).cell? ⟨wr.heap.size, 3, none⟩ = some ((.slice A' n5 c')) := (HTs.cell 3).trans rfl; have S4 : (w1'.setCell ⟨wr.heap.size, 3, none⟩ (.slice A' n5 c')).cell? ⟨wr.heap.size, 4, none⟩ = some (.bool c) := (HTs.cell 4).trans rfl; clear HTs; have HB2 := hid (below_set ((alloc_below wr (.cells #[.int .i64 k, .string tn, .string tx, .slice A5 n5 c5, .bool c] 36)).trans (Hb1'.out.mono (by simp))) ⟨wr.heap.size, 3, none⟩ (.slice A' n5 c') (Nat.le_refl _)); have HO2 := hid ((hO.out.keep HB2.out).up hBs); have HA2 := hid ((OwnA.setT (j := 3) (v := .slice A' n5 c') (show OwnA w1' (wr.heap.size + 1) _ _ by simpa using HA'.out)).more_ (Nat.le_succ _)))
        | (at_builtin; refine wpl_tkL rfl _ _ rfl base wr.heap.size _ (L.take i) no k tn tx _ ats c _ HO2.out Hno.out rfl (by show Value.slice (some ⟨_, 0, none⟩) 1 1 = _; simp [World.setCell]) HA2.out hno2 hsz HB2.out.size ?_; intro v' w3 hO3 hb3))
      go_roundg (n - (i + 1))
      case measure => omega
      case rel => exact ⟨i + 1, w3.heap.size, by go_num, by omega, rfl, Nat.le_trans hsz (Nat.le_trans HB2.out.size hb3.size), Nat.le_refl _, hid (by rw [Hsnoc.out]; exact hO3), hid (hbr.out.trans ((HB2.out.mono hsz).trans hb3))⟩
    · obtain rfl : i = n := by omega
      have HTin : Hid (OwnT wr base _ L) := hid (by have := hO.out.ownT; rwa [List.take_of_length_le (by rw [Hn.out]; exact Nat.le_refl _)] at this)
      obtain ⟨A3, c3, hV3⟩ := HTin.out.len Hn.out
      subst hV3
      have Hof := hid (of_any L _ wr (fun t ht => Nat.le_trans (Hb.out t ht) (by omega)) (by rw [Hn.out]; omega) (TkA.of_own HTin.out))
      have hsw : base ≤ wr.heap.size := by omega
      rename World => w2
      go_wp2_with fail
      refine Hof.out.mono ?_
      rintro e w3 ⟨Va, rfl, hTa, hb3⟩
      have HTa := hid hTa
      have Hall := hid (hbr.out.trans (hb3.mono hsw))
      have HS0 := hid (Sp.of_own (base := base) (top := w2.heap.size) (w2 := w3) HTin.out (Nat.le_refl _) (fun g hg => hb3.block g hg))
      clear hTa hb3
      go_wp2_with fail
      go_loopg [7, 8] i (fun g v7 v8 wr => ∃ j : Nat, v7 = .int .i64 (j : Int) ∧ j ≤ i ∧ g = i - j ∧ Hid (Sp base w2.heap.size w3 A3 i wr))
      case atStart => exact ⟨0, rfl, Nat.zero_le _, rfl, HS0⟩
      case round =>
        obtain ⟨j, rfl, hj, rfl, HS⟩ := hrel
        have hj0 : (0 : Int) ≤ (j : Int) := by omega
        by_cases hlt : j < i
        · have hjl : (j : Int) < (i : Int) := by omega
          have hjld : decide ((j : Int) < (i : Int)) = true := decide_eq_true hjl
          obtain ⟨gt, Ar, m, c, rfl, q3, hrow, hm0⟩ := HS.out.row hlt
          have hadd : (⟨gt, 0, none⟩ : Addr).add (j * 5) = ⟨gt, j * 5, none⟩ := add0 _ _
          have Hrow := hid hrow
          clear hrow
          rename World => w0
          go_wp2_with fail
          go_loopg [8] m (fun g v8 wr => ∃ k : Nat, v8 = .int .i64 (k : Int) ∧ k ≤ m ∧ g = m - k ∧ Hid (Sp base w2.heap.size w3 (some ⟨gt, 0, none⟩) i wr) ∧ wr.cell? ⟨gt, j * 5 + 3, none⟩ = some (.slice Ar m c) ∧ Hid (RowOk base w2.heap.size wr (.slice Ar m c)))
          case atStart => exact ⟨0, rfl, Nat.zero_le _, rfl, HS, q3, Hrow⟩
          case round =>
            clear q3
            obtain ⟨k, rfl, hk, rfl, HS2, q3, Hrow2⟩ := hrel
            have hk0 : (0 : Int) ≤ (k : Int) := by omega
            by_cases hkl : k < m
            · have hkil : (k : Int) < (m : Int) := by omega
              have hkild : decide ((k : Int) < (m : Int)) = true := decide_eq_true hkil
              obtain ⟨ga, rfl, ⟨x0, z0⟩, ⟨x1, z1⟩, hfz, hset⟩ := HS2.out.attr (by omega) Hrow2.out hkl
              have hadd2 : (⟨ga, 0, none⟩ : Addr).add (k * 2) = ⟨ga, k * 2, none⟩ := add0 _ _
              have hf0 := hfz (k * 2)
              have hf1 := hfz (k * 2 + 1)
              have Hset := hid hset
              clear hfz hset
              go_wp2_with fail
              go_roundg (m - (k + 1))
              case measure => omega
              case rel =>
                have hk1 : k + 1 ≤ m := by omega
                have h := Hset.out (.string ⟨#[115, 112, 111, 105, 108, 116]⟩) (.string ⟨#[]⟩)
                exact ⟨k + 1, by go_num, hk1, rfl, hid h.1, (h.2.2 gt _ rfl).trans q3, hid h.2.1⟩
            · obtain rfl : k = m := by omega
              have Htk3 := hid (HS2.out.tok hlt)
              obtain ⟨gt', e, hz, hfz, hset⟩ := Htk3.out
              injection e with e
              injection e with e
              subst e
              obtain ⟨x0, z0⟩ := hz 0 (by omega)
              obtain ⟨x1, z1⟩ := hz 1 (by omega)
              obtain ⟨x2, z2⟩ := hz 2 (by omega)
              obtain ⟨x4, z4⟩ := hz 4 (by omega)
              rw [Nat.add_zero] at z0
              have hf0 := hfz (j * 5)
              have hf1 := hfz (j * 5 + 1)
              have hf2 := hfz (j * 5 + 2)
              have hf3 := hfz (j * 5 + 3)
              have hf4 := hfz (j * 5 + 4)
              have Hset := hid hset
              clear hz hfz hset
              go_wp2_with fail
              go_roundg (i - (j + 1))
              case measure => omega
              case rel =>
                have hj1 : j + 1 ≤ i := by omega
                exact ⟨j + 1, by go_num, hj1, rfl, hid (Hset.out (.int .i64 77) (.string ⟨#[]⟩) (.string ⟨#[]⟩) (.bool false))⟩
        · obtain rfl : j = i := by omega
          have Hbw := hid (HS.out.below Hall.out (Nat.le_refl _))
          have HTa2 := hid (HTa.out.far (w' := wr) (fun g h1 h2 => HS.out.far g (.inr h1)))
          have hsr : base ≤ wr.heap.size := by rw [← Hbase.out]; exact Hbw.out.size
          have Href := hid (refShape_any L _ wr (fun t ht => Nat.le_trans (Hb.out t ht) (by omega)) (by rw [Hn.out]; omega) ((HV.out.below Hbw.out).more hsr))
          go_wp2_with fail
          refine Href.out.mono ?_
          rintro e w5 ⟨Vc, rfl, hTc, hb5⟩
          have Hb5 := hid hb5
          have HTc := hid hTc
          clear hTc hb5
          have Hsame := hid (sameAll_any (shapeL L) (shapeL L) Va Vc w5 (((TkA.of_own HTa2.out).below Hb5.out).more Hb5.out.size) (TkA.of_own HTc.out) HTa2.out.ats_le HTa2.out.len_le)
          rw [(tksEq_iff (shapeL L) (shapeL L)).2 rfl] at Hsame
          go_wp2_with fail
          refine Hsame.out.mono ?_
          rintro e w6 ⟨rfl, hb6⟩
          have Hend := hid (Hbw.out.trans ((Hb5.out.mono hsr).trans (hb6.mono (Nat.le_trans hsr Hb5.out.size))))
          go_wp2_with fail
          go_ret
          exact ⟨rfl, Hend.out⟩
theorem shapeOwn_w (A : Option Addr) (c : Nat) (L : List Tk) (W : World) (hll : L.length ≤ 1048576) (hl : TkA W W.heap.size (.slice A L.length c) L) (hf : ∀ t ∈ L, t.ats.length ≤ 1048576) (hm : MaxAt W) :
    Calls Try.prog 10 #[.slice A L.length c] W fun e w' => e = .returned (.bool true) ∧ Below W.heap.size W w' := shapeOwn_any L _ W hf hll hl hm
end Go.Proofs.Ytihgmgpcdodknaa
/- ShapeOwn: each law returns true for arguments of bulk at most 1048576 (the '..UptoSaid' statements), whatever the arguments. -/
namespace Go.Proofs.Ytihgmgpcdodknaa
open Go.ChangeShapes Go.WideShapes Go.ChangeAt Go.RowKit
open Go.ChangeMaps (setBlock shut_map_nil open_string shut_string keptBut_setBlock frozen?_setBlock heap_setBlock_same)

section
variable {H : Type} {enc : TypeId × Value → H}

set_option maxRecDepth 100000 in
theorem shapeOwn_step (W : World) (base : Nat) (args : Array Value) (ds gs : List (DataW H)) (before : List MemPlace) (hsh : W.ShapedOpen Try.prog) 
    (hval : ∀ (j : Nat) t v, Try.f10.params[j]? = some t → args[j]? = some v → Value.okWide Try.prog W .any base t v)
    (hW : DataW.Whole enc Try.prog Try.f10.params.toList Rows.shapeOwnSpec.vars false W args.toList ds gs before) (hk : Rows.uptoSmall H (ds ++ gs) = true) :
    Calls Try.prog 10 args W fun e W' => ∃ v, e = .returned v ∧ Rows.shapeOwnSpec.post enc Try.prog Try.f10 false true false false W args v W' := by
  have hW' := hW
  obtain ⟨p, q, hA0, hV, rfl, hfz, hnd⟩ := hW
  have hA : DataW.TrodAll enc Try.prog W 0 (fun _ => true) true Try.f10.params.toList args.toList ds p := hA0
  rw [Try.params10] at hA hval
  obtain ⟨v0, vs0, d0, ds0, p0, q0, hargs, rfl, rfl, h0, r0⟩ := trodAll_cons hA
  obtain ⟨rfl, rfl, rfl⟩ := trodAll_nil r0
  obtain rfl : args = #[v0] := by cases args; simp_all
  obtain ⟨rfl, rfl⟩ := trodVars_none hV
  obtain ⟨A0, n0, c0, l0, rfl, hn0, hl0, hf0, hm0⟩ := open_tks (hval 0 22 v0 rfl rfl) h0
  subst hn0
  have hbk : Rows.uptoBulkAll _ ≤ 1048576 := of_decide_eq_true hk
  simp only [List.append_nil, Rows.uptoBulkAll] at hbk
  refine (shapeOwn_w A0 c0 l0 W (by omega) hl0 (fun t ht => Nat.le_trans (hf0 t ht) (by omega)) (maxAt_of hsh)).mono fun e W' ⟨he, hb⟩ => ?_
  subst he
  exact ⟨_, rfl, law_post laidOut (tb := 4) (by kernel_rfl) Try.underlying4 (of_decide_eq_true (by kernel_rfl)) rfl rfl hW' hb⟩
end

set_option maxRecDepth 100000 in
theorem shapeOwn_lifted (os : Os) (started : os.Started) (H : Type) (enc : TypeId × Value → H) (F : Stop.Interp) :
    ReturnsInHanded {} Try.checked os 10 .any ((Rows.OpenSpec.upto Rows.shapeOwnSpec).pre6 enc Try.prog Try.f10 Rows.shapeOwnUptoRow.domain false) (((Rows.OpenSpec.upto Rows.shapeOwnSpec).at F).post enc Try.prog Try.f10 false true false false) := by
  refine lift_shaped (C := Try.checked) (s := Rows.OpenSpec.upto Rows.shapeOwnSpec) (k := Rows.uptoSmall) rfl own started (by kernel_rfl) Try.func10
    (OpenSpec.witness (enc := enc) (C := Try.checked) (s := Rows.OpenSpec.upto Rows.shapeOwnSpec) (k := Rows.uptoSmall) rfl false ⟨#[], #[.slice none 0 0], []⟩ 8 (by kernel_rfl) (by kernel_rfl) (by kernel_rfl)
      (x := ([.nil], [], [])) (by kernel_rfl) rfl (by kernel_rfl)) ?_
  intro W base args ds gs before hsh hval hW hk
  exact shapeOwn_step W base args ds gs before hsh hval hW hk

theorem ShapeOwn_holds : Rows.ShapeOwnUptoSaid :=
  OpenClaim.holds_of_cond 10 Try.f10 rfl rfl rfl rfl rfl rfl rfl ⟨rfl, rfl, rfl, rfl, rfl⟩ rfl rfl rfl rfl rfl (by kernel_rfl) Try.func10 (by kernel_rfl)
    (of_decide_eq_true (by kernel_rfl)) (by unfold Func.isWrapper; first | (rw [if_pos (by decide +kernel)]; kernel_rfl) | (rw [if_neg (by decide +kernel)]; exact ⟨rfl, rfl⟩))
    (fun os started H enc _ F => shapeOwn_lifted os started H enc F)

#print axioms ShapeOwn_holds
end Go.Proofs.Ytihgmgpcdodknaa
